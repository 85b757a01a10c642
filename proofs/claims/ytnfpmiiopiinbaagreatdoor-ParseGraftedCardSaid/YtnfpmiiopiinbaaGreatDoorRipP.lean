/- Lemmas for the proof: no conditions. -/
import Derived.Test.YtnfpmiiopiinbaaGreatDoorRipZz
import Derived.Test.YtnfpmiiopiinbaaGreatDoorRipN
import Derived.Test.YtnfpmiiopiinbaaGreatDoorRipE
import Derived.Test.YtnfpmiiopiinbaaGreatDoorRipF
set_option linter.unusedVariables false
set_option linter.unusedSimpArgs false
set_option linter.loopingSimpArgs false
namespace Go.Rip
open Go.Proofs Go.RowKit
def cls (c : Int) : Int := if c = 32 \/ c = 10 then 1 else if c < 32 \/ c > 126 then 0 else if 48 <= c /\ c <= 57 then 2 else if 97 <= c /\ c <= 122 then 3 else if 65 <= c /\ c <= 90 then 4 else 5
theorem BA (c : Int) : Pure K 216 [.int .u8 c] (.int .i64 (cls c)) := by
 intro U R hR
 refine Ku ?_
 simp (contextual := true) only [Kt, yi, wu, bl, bP, jU, eO, gI, ah, aW, aM, mZ, bZ, cc, aC, aJ, kP, Tg, bE, bq, a7, cX, dz, ite_true, ite_false, beq_true, beq_false, cq, dR, dD, if_true, if_false, true_and, and_true, not_true, not_false_iff]
 repeat' (first | refine And.intro ?_ ?_ | intro _)
 all_goals (refine al.eq hR ?_; simp only [cls, AV.int.injEq, true_and])
 all_goals grind
def Cp (l : List Int) (s : Int) : Int := match l.findIdx? (· = s) with | some i => i | none => -1
theorem DN (c : hX) (l : List Int) (s : Int) (hn : l.length <= 100000) : Pure K 246 [.vec l.length c (l.map (.int .i64)), .int .i64 s] (.int .i64 (Cp l s)) := by
 intro U R hR
 refine KF ?_
 simp only [KE, rL, ah]
 refine ⟨fun m v0 v1 v7 v8 ad => ∃ i : Nat, m = l.length - i /\ i <= l.length /\ v0 = .vec l.length c (l.map (.int .i64)) /\ v1 = .int .i64 s /\ v7 = .int .i64 l.length /\ v8 = .int .i64 i /\ ad = U /\ ∀ j, j < i -> l[j]? ≠ some s, ⟨l.length, 0, by simp [Fn.app]⟩, ?_⟩
 intro m v0 v1 v7 v8 ad hI
 obtain ⟨i, rfl, hi, rfl, rfl, rfl, rfl, rfl, gd⟩ := hI
 simp only [bP, ah, bE]
 refine ⟨fun aK => ?_, fun hY => ?_⟩
 · have aK : i < l.length := by omega
   have hd : (l.map (AV.int .i64)).drop (i * 1) = .int .i64 l[i] :: (l.map (AV.int .i64)).drop (i + 1) := by
    rw [Nat.mul_one, gp (by simpa using aK)]; simp
   simp only [tI, wp_cond, ah, eG, hd, ql, cY, bl, bE]
   refine ⟨by omega, fun he => ?_, fun bW => ?_⟩
   · refine al.eq hR ?_
     have : l.findIdx? (· = s) = some i := by
      rw [CV]
      refine ⟨aK, by simp [he], fun j hj => ?_⟩
      have := gd j hj
      rw [kL (by omega)] at this
      simpa using this
     simp [Cp, this]
   · simp only [iC, db, wp_cond, ah]
     refine ⟨aX (by omega) (by omega), ?_⟩
     refine ⟨l.length - (i + 1), by omega, i + 1, rfl, by omega, rfl, rfl, rfl, by simp, rfl, fun j hj => ?_⟩
     rcases fT j i with h | h
     · exact gd j h
     · have : j = i := by omega
       subst this
       rw [kL aK]; simpa using fun h => bW h.symm
 · refine al.eq hR ?_
   have : l.findIdx? (· = s) = none := by
    rw [List.findIdx?_eq_none_iff]
    intro x hx
    obtain ⟨j, hj, rfl⟩ := List.getElem_of_mem hx
    have := gd j (by omega)
    rw [kL hj] at this
    simpa using this
   simp [Cp, this]
theorem DL (l : List Int) (s : Int) : decide (0 <= Cp l s) = decide (s ∈ l) := by
 unfold Cp
 split
 · rename_i j hj
   obtain ⟨h1, h2, _⟩ := CV.1 hj
   have : s ∈ l := by have := of_decide_eq_true h2; exact this ▸ zq h1
   simp [this]
 · rename_i hj
   rw [List.findIdx?_eq_none_iff] at hj
   have : s ∉ l := fun hm => by simpa using hj s hm
   simp [this]
theorem sE (c : Int) (cp : hX) (l : List Int) (hn : l.length <= 100000) : Pure K 151 [.int .u8 c, .vec l.length cp (l.map (.int .i64))] (.bool (decide (cls c ∈ l))) := by
 intro U R hR
 refine JH ?_
 refine (BA c).go ?_
 refine Ks ?_
 refine (DN cp l (cls c) hn).go ?_
 simp only [gI, ah, DL]
 exact al.mk (al.mk hR)
theorem Aj (c : UInt8) : decide (cls c.toNat ∈ [2]) = fN c := by
 unfold cls fN
 rw [nf]
 simp only [kM, dD]
 grind
theorem Ip (c : UInt8) : decide (cls c.toNat ∈ [3]) = nU c := by
 unfold cls nU
 rw [nf]
 simp only [kM, dD]
 grind
theorem Il (c : UInt8) : decide (cls c.toNat ∈ [2, 3, 4]) = dX c := by
 unfold cls dX fN nU F9
 rw [nf]
 simp only [dA, List.not_mem_nil, or_false, dD, hZ]
 grind
theorem Io (c : UInt8) : (!decide (cls c.toNat ∈ [0])) = mP c := by
 unfold cls mP
 rw [nf]
 simp only [kM, dD, Bool.not_eq_true', decide_eq_false_iff_not]
 grind
theorem DO (c : UInt8) : Pure K 146 [.int .u8 c.toNat] (.bool (mP c)) := by
 intro U R hR
 refine Jz ?_
 unfold Jy
 rw [gq]
 refine ⟨by omega, ?_⟩
 rw [eD (o := 0) (s := 1) rfl]
 refine ⟨⟨rfl, rfl, by simp [bw]⟩, ?_⟩
 rw [ib]
 refine ⟨rfl, ?_⟩
 refine (sE c.toNat .full [0] (by simp)).go ?_
 simp only [dt, ah, Io]
 exact al.mk hR
theorem getD_at {s : aZ} {i : Nat} (h : i < s.length) : s.getD i 0 = s[i] := by simp [zp, h]
theorem Lu (s : aZ) : Pure K 74 [.str s] (.aN [.int .i64 (qG s).1, .int .i64 (qG s).2]) := by
 intro U R hR
 refine MK ?_
 unfold OF
 simp only [kZ, ah, eO, bE]
 unfold qG at hR
 refine ⟨fun h => ?_, fun h => ?_⟩
 · rw [if_pos (by omega)] at hR
   exact al.mk hR
 · rw [if_neg (by omega)] at hR
   refine ⟨fun m v0 v9 v10 ad => ∃ i : Nat, m = s.length - i /\ i <= s.length /\ v0 = .str s /\ v9 = .int .i64 s.length /\ v10 = .int .i64 i /\ ad = U /\ ∀ j (hj : j < s.length), j < i -> mP s[j] = true, ⟨s.length, 0, by simp [Fn.app]⟩, ?_⟩
   rintro m v0 v9 v10 ad ⟨i, rfl, hi, rfl, rfl, rfl, rfl, bK⟩
   simp only [bP, ah, bE]
   refine ⟨fun aK => ?_, fun hY => ?_⟩
   · have aK : i < s.length := by omega
     rw [yJ]
     refine ⟨by omega, ?_⟩
     rw [eG, getD_at aK]
     refine (DO s[i]).go ?_
     simp only [dt, ah]
     cases hb : mP s[i] with
     | false =>
       simp only [dR, bq]
       have : s.findIdx? (fun c => !mP c) = some i := by
        rw [CV]
        exact ⟨aK, by simp [hb], fun j hj => by simp [bK j (by omega) hj]⟩
       rw [this] at hR
       exact al.mk hR
     | true =>
       simp only [cq, a7, c8]
       refine ⟨aX (by omega) (by omega), s.length - (i + 1), by omega, i + 1, rfl, by omega, rfl, rfl, by simp, rfl, fun j hj rD => ?_⟩
       rcases fT j i with h | h
       · exact bK j hj h
       · have : j = i := by omega
         subst this; exact hb
   · have : s.findIdx? (fun c => !mP c) = none := by
      rw [List.findIdx?_eq_none_iff]
      intro x hx
      obtain ⟨j, hj, rfl⟩ := List.getElem_of_mem hx
      simp [bK j hj (by omega)]
     rw [this] at hR
     exact al.mk hR
theorem tL {p : UInt8 -> Bool} : ∀ {l : aZ}, (∀ x ∈ l, p x = true) -> l.takeWhile p = l
 | [], _ => rfl
 | c :: l, h => by rw [sV, h c (by simp)]; simp [tL (l := l) fun x hx => h x (by simp [hx])]
theorem run_pure (s : aZ) (hs : s.length <= 100000) : Pure K 149 [.str s] (.int .i64 (s.takeWhile dX).length) := by
 intro U R hR
 refine JE ?_
 unfold JD
 refine ⟨fun m v0 v2 ad => ∃ i : Nat, m = s.length - i /\ i <= s.length /\ v0 = .str s /\ v2 = .int .i64 i /\ ad = U /\ ∀ j (hj : j < s.length), j < i -> dX s[j] = true, ⟨s.length, 0, by simp [Fn.app]⟩, ?_⟩
 rintro m v0 v2 ad ⟨i, rfl, hi, rfl, rfl, rfl, bK⟩
 have wV : (s.take i).takeWhile dX = s.take i := by
  refine tL fun x hx => ?_
  obtain ⟨j, hj, rfl⟩ := List.getElem_of_mem hx
  simp only [List.length_take] at hj
  rw [List.getElem_take]
  exact bK j (by omega) (by omega)
 have EB : s.takeWhile dX = s.take i ++ (s.drop i).takeWhile dX := by
  conv => lhs; rw [<- List.take_append_drop i s]
  rw [List.takeWhile_append, wV]
  simp
 simp only [kZ, ah, bP, aW, aM]
 by_cases aK : i < s.length
 · have oB : (i : Int) < s.length := by omega
   simp only [oB, cX, fK, bZ, aC, GF, kP, eG, getD_at aK]
   refine ⟨by simp, ?_⟩
   rw [sS]
   refine ⟨by omega, ?_⟩
   rw [oh (o := 0) (s := 1) rfl]
   refine ⟨⟨rfl, rfl, by simp [bw]⟩, ?_⟩
   rw [oh (o := 1) (s := 1) rfl]
   refine ⟨⟨rfl, rfl, by simp [bw, aw]⟩, ?_⟩
   rw [oh (o := 2) (s := 1) rfl]
   refine ⟨⟨rfl, rfl, by simp [bw, aw]⟩, ?_⟩
   rw [vG]
   refine ⟨rfl, _, sE s[i].toNat .full [2, 3, 4] (by simp), ?_⟩
   rw [Il]
   simp only [aJ, if_true, ah]
   have hd : s.drop i = s[i] :: s.drop (i + 1) := gp aK
   cases hb : dX s[i] with
   | true =>
     simp only [bq, c8]
     refine ⟨aX (by omega) (by omega), s.length - (i + 1), by omega, i + 1, rfl, by omega, rfl, by simp, rfl, fun j hj rD => ?_⟩
     rcases fT j i with h | h
     · exact bK j hj h
     · have : j = i := by omega
       subst this; exact hb
   | false =>
     simp only [a7]
     refine al.eq hR ?_
     rw [EB, hd, sV, hb]
     simp
     omega
 · have oB : ¬ (i : Int) < s.length := by omega
   simp only [oB, dz, show (false == true) = false from rfl, cc, aJ, bu, if_false, ah, a7]
   refine al.eq hR ?_
   rw [EB, List.drop_eq_nil_of_le (by omega)]
   simp; omega
end Go.Rip
namespace Go.Rip
open Go.Proofs Go.RowKit
theorem IM {s : aZ} {i : Nat} (h : i < s.length) : gE 0 (s.take (i + 1)) = min (10 * gE 0 (s.take i) + ((s[i].toNat : Int) - 48)) 1000001 := by
 have : s.take (i + 1) = s.take i ++ [s[i]] := by rw [sW, kL h]; rfl
 rw [this]
 unfold gE
 rw [List.foldl_append]
 rfl
theorem DW (s : aZ) (hs : s.length <= 100000) : Pure K 152 [.str s] (.int .i64 (l8 s)) := by
 intro U R hR
 refine JJ ?_
 unfold JI
 simp only [kZ, ah]
 refine ⟨fun m v0 v3 v6 v7 ad => ∃ i : Nat, m = s.length - i /\ i <= s.length /\ v0 = .str s /\ v3 = .int .i64 (gE 0 (s.take i)) /\ v6 = .int .i64 s.length /\ v7 = .int .i64 i /\ ad = U /\ (s.take i).all fN = true, ⟨s.length, 0, by simp [Fn.app, gE]⟩, ?_⟩
 rintro m v0 v3 v6 v7 ad ⟨i, rfl, hi, rfl, rfl, rfl, rfl, rfl, bK⟩
 have hb := ER (s.take i) 0 (by omega)
 have tA := rO (s.take i) 0 bK (by omega)
 simp only [bP, ah, bE]
 refine ⟨fun aK => ?_, fun hY => ?_⟩
 · have aK : i < s.length := by omega
   rw [yJ]
   refine ⟨by omega, ?_⟩
   rw [eG, getD_at aK, gq]
   refine ⟨by omega, ?_⟩
   rw [eD (o := 0) (s := 1) rfl]
   refine ⟨⟨rfl, rfl, by simp [bw]⟩, ?_⟩
   rw [ib]
   refine ⟨rfl, ?_⟩
   refine (sE s[i].toNat .full [2] (by simp)).go ?_
   rw [Aj]
   simp only [dt, ah]
   have eL : s.take (i + 1) = s.take i ++ [s[i]] := by rw [sW, kL aK]; rfl
   cases hd : fN s[i] with
   | false =>
     simp only [dR, bq]
     refine al.eq hR ?_
     have : s.all fN = false := by
      rw [Bool.eq_false_iff]
      intro h
      rw [eh] at h
      rw [h s[i] (zq aK)] at hd
      cases hd
     simp [l8, this]
   | true =>
     have hc := kH.1 hd
     simp only [cq, a7, Wh]
     refine ⟨aX (by omega) (by omega), ?_⟩
     rw [yJ]
     refine ⟨by omega, ?_⟩
     rw [eG, getD_at aK]
     have hw : IntKind.u8.wrap ((s[i].toNat : Int) - 48) = (s[i].toNat : Int) - 48 := by
      show ((s[i].toNat : Int) - 48) % 256 = _
      omega
     simp only [dP, Lo, ah, hw, si, wp_cond, c8, PL]
     refine ⟨aX (by omega) (by omega), aX (by omega) (by omega), aX (by omega) (by omega), ?_⟩
     refine ⟨s.length - (i + 1), by omega, i + 1, rfl, by omega, rfl, ?_, rfl, by simp, rfl, ?_⟩
     · rw [IM aK]
       congr 1
       omega
     · rw [eL, List.all_append, bK]; simp [hd]
 · have hi : i = s.length := by omega
   subst hi
   rw [qS] at bK hb tA ⊢
   have hv : CL s = gE 0 s := rfl
   simp only [kZ, ah, eO, aW, aM]
   by_cases h1 : 1 < s.length
   · have BP : (1 : Int) < s.length := by omega
     simp only [BP, cX, fK, bZ, aC, GF, kP, bl, aJ, if_true, ah, bE]
     have h0 : s.getD (0 : Int).toNat 0 = s[0] := getD_at (by omega)
     rw [h0]
     have hh : s.head? = some s[0] := by
      cases s with
      | nil => simp at h1
      | cons c r => rfl
     refine ⟨⟨by omega, by omega⟩, fun HO => ?_, fun HO => ⟨fun hm => ?_, fun hm => ?_⟩⟩
     · refine al.eq hR ?_
       have Zt : s[0].toNat = (48 : UInt8).toNat := by show s[0].toNat = 48; omega
       have : s[0] = 48 := UInt8.toNat_inj.1 Zt
       simp [l8, bK, h1, hh, this]
     · refine al.eq hR ?_
       have : ¬ s[0] = 48 := fun e => HO (by rw [e]; rfl)
       simp [l8, bK, hh, this, hv, hm]
     · refine al.eq hR ?_
       have : ¬ s[0] = 48 := fun e => HO (by rw [e]; rfl)
       simp [l8, bK, hh, this, hv, hm]
   · have BP : ¬ (1 : Int) < s.length := by omega
     simp only [BP, dz, show (false == true) = false from rfl, cc, aJ, bu, if_false, ah, a7, bE]
     refine ⟨fun hm => ?_, fun hm => ?_⟩
     · refine al.eq hR ?_
       simp [l8, bK, h1, hv, hm]
     · refine al.eq hR ?_
       simp [l8, bK, h1, hv, hm]
theorem ry (s p : aZ) : Pure K 213 [.str s, .str p] (.bool (p.isPrefixOf s)) :=
 Pure.w8 (vs := [.string ⟨s.toArray⟩, .string ⟨p.toArray⟩]) (v := .bool (p.isPrefixOf s)) (fun g us h => by
  simp only [ax, ao] at h
  obtain ⟨_, _, rfl, rfl, _, _, rfl, rfl, rfl⟩ := h; rfl) (fun g => by simp only [ao]) fun w => Tryz.strings_HasPrefix ⟨s.toArray⟩ ⟨p.toArray⟩ w
theorem ta (s : aZ) : (qW.find? fun x => x.isPrefixOf s) = if cN.isPrefixOf s then some cN else if iK.isPrefixOf s then some iK else match s with
 | [] => none
 | c :: _ => if c ∈ cS then some [c] else none := by
 cases s with
 | nil => rfl
 | cons c r =>
   by_cases h1 : cN.isPrefixOf (c :: r) = true
   · simp only [qW, List.find?_cons, h1, if_true]
   · by_cases h2 : iK.isPrefixOf (c :: r) = true
     · simp only [qW, List.find?_cons, h1, h2, if_true, bu, if_false]
     · simp only [qW, List.find?_cons, h1, h2, bu, if_false]
       have e : ∀ x : UInt8, [x].isPrefixOf (c :: r) = (x == c) := fun x => by simp [List.isPrefixOf]
       simp only [show yH = [61] from rfl, show yG = [60] from rfl, show yC = [43] from rfl, show yE = [45] from rfl, show yB = [42] from rfl, show o3 = [33] from rfl, show o4 = [40] from rfl, show qA = [41] from rfl, show yI = [123] from rfl, show Be = [125] from rfl, show yD = [44] from rfl, show ti = [59] from rfl, show yF = [58] from rfl, show Bd = [46] from rfl, e]
       by_cases hc : c ∈ cS
       · rw [if_pos hc]
         simp only [cS, dA, List.not_mem_nil, or_false] at hc
         rcases hc with rfl | rfl | rfl | rfl | rfl | rfl | rfl | rfl | rfl | rfl | rfl | rfl | rfl | rfl <;> rfl
       · rw [if_neg hc]
         simp only [cS, dA, List.not_mem_nil, or_false, not_or] at hc
         have f : ∀ x : UInt8, ¬ c = x -> (x == c) = false := fun x h => by simp [Ne.symm h]
         simp only [f _ hc.1, f _ hc.2.1, f _ hc.2.2.1, f _ hc.2.2.2.1, f _ hc.2.2.2.2.1, f _ hc.2.2.2.2.2.1, f _ hc.2.2.2.2.2.2.1, f _ hc.2.2.2.2.2.2.2.1, f _ hc.2.2.2.2.2.2.2.2.1, f _ hc.2.2.2.2.2.2.2.2.2.1, f _ hc.2.2.2.2.2.2.2.2.2.2.1, f _ hc.2.2.2.2.2.2.2.2.2.2.2.1, f _ hc.2.2.2.2.2.2.2.2.2.2.2.2.1, f _ hc.2.2.2.2.2.2.2.2.2.2.2.2.2, List.find?_nil]
theorem Cq (l : List UInt8) (c : UInt8) : decide (Lib.indexByte l c < 0) = !decide (c ∈ l) := by
 induction l with
 | nil => simp [Lib.indexByte]
 | cons b l ih =>
   have hg := Lib.indexByte_ge l c
   unfold Lib.indexByte
   by_cases h : b = c
   · subst h; simp
   · have hc : ¬ c = b := fun e => h e.symm
     have h' : (b == c) = false := by simp [h]
     rw [h']
     by_cases hm : c ∈ l
     · simp only [hm, cX, cq, decide_eq_false_iff_not] at ih
       have h2 : (Lib.indexByte l c == -1) = false := by simp; omega
       simp [h2, hm]; omega
     · simp only [hm, dz, dR, dD] at ih
       have h2 : (Lib.indexByte l c == -1) = true := by simp; omega
       simp [h2, hm, hc]
def uX (s : aZ) : Int × Nat × aZ := match qW.find? fun x => x.isPrefixOf s with | some x => (0, 4, x) | none => (4, 0, [])
def GS (p : Int × Nat × aZ) : AV := .aN [.agg [.int .u8 p.2.1, .str p.2.2, .int .i64 0], .int .i64 p.1]
theorem KO (s : aZ) (hs : s.length <= 100000) : Pure K 150 [.str s] (GS (uX s)) := by
 refine Pure.of rfl rfl (fun U => rfl) fun R hR => ?_
 refine JG ?_
 unfold JF
 rw [cw]
 intro b hb
 generalize lL : (br _).new b _ = U
 have fC : U.box b = some [AV.int .u8 0, AV.str [], AV.int .i64 0] := by rw [<- lL]; exact aD
 clear lL hb
 have NA : ∀ {K' : AV -> St -> Prop} {Kp : AV -> St -> Prop} {z : List AV} {ps : List (Nat × AV)} {U : St}, (dV none (some z) (some (2, 9, 1)) ps).wp K U K' Kp = (ek (fun i => some (i * 1, 1)) ps z fun z => .val (.agg z)).wp K U K' Kp := rfl
 rw [NA, eD (o := 0) (s := 1) rfl]
 refine ⟨⟨rfl, rfl, by simp⟩, ?_⟩
 rw [eD (o := 1) (s := 1) rfl]
 refine ⟨⟨rfl, rfl, by simp [aw]⟩, ?_⟩
 rw [Qi]
 have fin : ∀ (k : Nat) (x : aZ) (e : Int) (ps : List (Nat × AV)) (ad : St), ad.box b = some [AV.int .u8 0, AV.str [], AV.int .i64 0] -> wO [(0, 1), (1, 1), (2, 1)] ps [AV.int .u8 0, AV.str [], AV.int .i64 0] = some [.int .u8 k, .str x, .int .i64 0] -> uX s = (e, k, x) ->
  (dV (some [(0, 1), (1, 1), (2, 1)]) (some [AV.int .u8 0, AV.str [], AV.int .i64 0]) none ps).wp K ad (fun v U => (aF (some (true, 3)) (.box b 0) v U).wp K U (fun _ U => bA (some (true, 3)) (.box b 0) U fun r0 => al R (.aN [r0, .int .i64 e]) U) (aa R)) (aa R) := by
  intro k x e ps ad cZ h1 h2
  refine pc _ h1 ?_
  rw [cF cZ]
  refine ⟨⟨rfl, rfl, by simp⟩, ?_⟩
  rw [nV aR]
  refine ⟨by simp [aw], ?_⟩
  rw [h2] at hR
  exact al.eq (hR _) rfl
 refine ⟨fun m v0 v2 v6 v7 ad => ∃ i : Nat, m = 2 - i /\ i <= 2 /\ v0 = .str s /\ v2 = .box b 0 /\ v6 = .agg [.str cN, .str iK] /\ v7 = .int .i64 i /\ ad.box b = some [AV.int .u8 0, AV.str [], AV.int .i64 0] /\ (0 < i -> cN.isPrefixOf s = false) /\ (1 < i -> iK.isPrefixOf s = false),
  ⟨2, 0, rfl, by omega, rfl, rfl, rfl, rfl, fC, by simp, by simp⟩, ?_⟩
 rintro m v0 v2 v6 v7 ad ⟨i, rfl, hi, rfl, rfl, rfl, rfl, cZ, xU, Sq⟩
 simp only [bP, ah, bE]
 refine ⟨fun aK => ?_, fun hY => ?_⟩
 · have aK : i < 2 := by omega
   obtain rfl | rfl : i = 0 \/ i = 1 := by omega
   · simp only [fD, wp_cond]
     refine ⟨by omega, ?_⟩
     simp only [show ((0 : Nat) : Int).toNat * 1 = 0 from rfl, List.drop, fl, ah]
     refine (ry s cN).go ?_
     cases hp : cN.isPrefixOf s with
     | true =>
       simp only [bq]
       refine fin 4 cN 0 _ ad cZ rfl ?_
       simp [uX, ta, hp]
     | false =>
       simp only [a7, c8]
       exact ⟨aX (by omega) (by omega), 1, by omega, 1, rfl, by omega, rfl, rfl, rfl, rfl, cZ, fun _ => by first | exact hp | trivial, by simp⟩
   · simp only [fD, wp_cond]
     refine ⟨by omega, ?_⟩
     simp only [show ((1 : Nat) : Int).toNat * 1 = 1 from rfl, List.drop, fl, ah]
     refine (ry s iK).go ?_
     cases hp : iK.isPrefixOf s with
     | true =>
       simp only [bq]
       refine fin 4 iK 0 _ ad cZ rfl ?_
       simp [uX, ta, hp, xU (by omega)]
     | false =>
       simp only [a7, c8]
       exact ⟨aX (by omega) (by omega), 0, by omega, 2, rfl, by omega, rfl, rfl, rfl, rfl, cZ, fun _ => xU (by omega), fun _ => by first | exact hp | trivial⟩
 · have Z8 : i = 2 := by omega
   subst Z8
   have p0 := xU (by omega)
   have p1 := Sq (by omega)
   simp only [nQ, ah, aW, aM]
   cases s with
   | nil =>
     simp only [show w_ = ([] : List UInt8) from rfl, cX, show (true == false) = false from rfl, cc, aJ, if_true, ah, bq]
     exact fin 0 [] 4 _ ad cZ rfl rfl
   | cons c r =>
     have bW : ¬ (c :: r = w_) := by simp [show w_ = ([] : List UInt8) from rfl]
     simp only [bW, dz, fK, bZ, aC, GF, kP, aJ, bu, if_false, ah]
     refine ⟨by simp, _, rH cS c.toNat, ?_⟩
     simp only [bP, aC, aJ, bu, if_false, ah]
     have ZS : ((c.toNat : Int).toNat).toUInt8 = c := by simp
     rw [ZS, Cq]
     cases hm : decide (c ∈ cS) with
     | false =>
       have H3 : ¬ c ∈ cS := by simpa using hm
       simp only [dR, bq]
       refine fin 0 [] 4 _ ad cZ rfl ?_
       simp [uX, ta, p0, p1, H3]
     | true =>
       have H3 : c ∈ cS := by simpa using hm
       simp only [cq, a7, om, eT, eJ, wp_cond, ah]
       refine ⟨⟨by omega, by omega, by simp; omega⟩, ?_⟩
       refine fin 4 [c] 0 _ ad cZ rfl ?_
       simp [uX, ta, p0, p1, H3]
end Go.Rip
namespace Go.Rip
open Go.Proofs Go.RowKit
theorem CD (s : aZ) : ∀ l : List aZ, jz .s (.str s) (.bool false) false (l.map .str) (l.map fun _ => .bool true) = .val (.bool (decide (s ∈ l)))
 | [] => by simp [jz]
 | x :: l => by
   simp only [dN, jz, eR]
   by_cases h : s = x
   · subst h; simp
   · rw [show (s == x) = false by simp [h]]
     have := CD s l
     simp only [bu, if_false, this]
     simp [h]
theorem Ld : yM = .dY (nE.map .str) (nE.map fun _ => .bool true) := rfl
theorem Hg (s : aZ) (U : St) : eM (some (.s, 4)) (some (AV.bool false)) yM (.str s) false U = .val (.bool (decide (s ∈ nE))) := by
 rw [Ld]
 simp only [eM, ju, mQ]
 exact CD s nE
theorem FC (s : aZ) (hs : s.length <= 100000) : Pure K 77 [.str s] (GS (ia s)) := by
 refine Pure.of rfl rfl (fun U => rfl) fun R hR => ?_
 refine MN ?_
 unfold OI
 rw [cw]
 intro b hb
 generalize lL : (br _).new b _ = U
 have fC : U.box b = some [AV.int .u8 0, AV.str [], AV.int .i64 0] := by rw [<- lL]; exact aD
 clear lL hb
 refine (run_pure s hs).go ?_
 have wV : s.take (s.takeWhile dX).length = s.takeWhile dX := by
  have := List.takeWhile_prefix dX (l := s)
  exact (List.prefix_iff_eq_take.1 this).symm
 have hle : (s.takeWhile dX).length <= s.length := (List.takeWhile_prefix dX).length_le
 simp only [om, eT, eJ, wp_cond, ah, eG, wV, show (0 : Int).toNat = 0 from rfl, dU, nQ, bE]
 refine ⟨⟨by omega, by omega, by omega⟩, fun h0 => ?_, fun h0 => ?_⟩
 · have h0 : s.takeWhile dX = [] := h0
   refine (KO s hs).go ?_
   simp only [GS, bL, List.drop, bB]
   rw [cF fC]
   refine ⟨⟨rfl, rfl, by simp⟩, ?_⟩
   rw [nV aR]
   refine ⟨by simp [aw], al.eq (hR _) ?_⟩
   have : ia s = uX s := by unfold ia uX; rw [h0]; rfl
   rw [this]; rfl
 · cases hw : s.takeWhile dX with
   | nil => exact absurd hw h0
   | cons c r =>
     have hlw : (c :: r).length <= s.length := by rw [<- hw]; exact hle
     have ht : ia s = if fN c then (l8 (c :: r), 2, c :: r) else if nU c = false then (4, 0, []) else if (c :: r) ∈ nE then (0, 3, c :: r) else if 12 < (c :: r).length then (4, 0, []) else (0, 1, c :: r) := by
      unfold ia; rw [hw]
     have fin : ∀ (k : Nat) (x : aZ) (e : Int) (zs : List AV) (ad : St), zs = [.int .u8 k, .str x, .int .i64 0] -> ad.box b = some [AV.int .u8 0, AV.str [], AV.int .i64 0] -> ia s = (e, k, x) ->
      (aF (some (true, 3)) (.box b 0) (.agg zs) ad).wp K ad (fun _ U => bA (some (true, 3)) (.box b 0) U fun r0 => al R (.aN [r0, .int .i64 e]) U) (aa R) := by
      intro k x e zs ad hz cZ h2
      subst hz
      rw [cF cZ]
      refine ⟨⟨rfl, rfl, by simp⟩, ?_⟩
      rw [nV aR]
      refine ⟨by simp [aw], ?_⟩
      rw [h2] at hR
      exact al.eq (hR _) rfl
     have one : ∀ (cl : Int) (K' : AV -> St -> Prop) (ad : St), K' (.bool (decide (cls c.toNat ∈ [cl]))) ad ->
      (fD true none none (.str (c :: r)) (.int .i64 0)).wp K ad (fun ck U => (aH (some (178, 1)) (some [AV.int .i64 0]) 1 false [(0, (AV.int .i64 cl))]).wp K U (fun di U => ae K 151 [ck, di] U (ar K' (aa R))) (aa R)) (aa R) := by
      intro cl K' ad h
      rw [yJ]
      refine ⟨⟨by omega, by simp⟩, ?_⟩
      rw [gq]
      refine ⟨by omega, ?_⟩
      rw [eD (o := 0) (s := 1) rfl]
      refine ⟨⟨rfl, rfl, by simp [bw]⟩, ?_⟩
      rw [ib]
      refine ⟨rfl, ?_⟩
      exact (sE c.toNat .full [cl] (by simp)).go h
     refine one 2 _ _ ?_
     rw [Aj]
     cases hd : fN c with
     | true =>
       simp only [bq]
       refine pc [.int .u8 2, .str (c :: r), .int .i64 0] rfl ?_
       refine (DW (c :: r) (by omega)).go ?_
       exact fin 2 (c :: r) _ _ _ rfl fC (by rw [ht, if_pos hd])
     | false =>
       simp only [a7]
       refine one 3 _ _ ?_
       rw [Ip]
       simp only [dt, ah]
       have tB : ¬ (fN c = true) := by rw [hd]; simp
       cases mN : nU c with
       | false =>
         simp only [dR, bq]
         refine pc [.int .u8 0, .str [], .int .i64 0] rfl ?_
         exact fin 0 [] _ _ _ rfl fC (by rw [ht, if_neg tB, if_pos mN])
       | true =>
         have dw : ¬ (nU c = false) := by rw [mN]; simp
         simp only [cq, a7]
         refine yO.go ?_
         simp only [Hg, ah, bE, kZ, eO]
         refine ⟨fun hk => ?_, fun hk => ⟨fun hl => ?_, fun hl => ?_⟩⟩
         · refine pc [.int .u8 3, .str (c :: r), .int .i64 0] rfl ?_
           exact fin 3 (c :: r) _ _ _ rfl fC (by rw [ht, if_neg tB, if_neg dw, if_pos hk])
         · refine pc [.int .u8 0, .str [], .int .i64 0] rfl ?_
           exact fin 0 [] _ _ _ rfl fC (by rw [ht, if_neg tB, if_neg dw, if_neg hk, if_pos (by omega)])
         · refine pc [.int .u8 1, .str (c :: r), .int .i64 0] rfl ?_
           exact fin 1 (c :: r) _ _ _ rfl fC (by rw [ht, if_neg tB, if_neg dw, if_neg hk, if_neg (by omega)])
end Go.Rip
namespace Go.Rip
open Go.Proofs Go.RowKit
theorem yu (u : aZ) : (Lib.indexByte u 10 = -1 /\ u.takeWhile (fun c => c.toNat ≠ 10) = u) \/ ∃ k : Nat, Lib.indexByte u 10 = k /\ k < u.length /\ u.takeWhile (fun c => c.toNat ≠ 10) = u.take k := by
 have mr : ∀ c : UInt8, c.toNat = 10 ↔ c = 10 := fun c => ⟨fun h => UInt8.toNat_inj.1 h, fun h => by rw [h]; rfl⟩
 induction u with
 | nil => left; exact ⟨rfl, rfl⟩
 | cons b u ih =>
   unfold Lib.indexByte
   by_cases hb : b = 10
   · right
     refine ⟨0, by simp [hb], by simp, ?_⟩
     rw [sV]
     simp [(mr b).2 hb]
   · have cZ : (b == 10) = false := by simp [hb]
     have hn : (decide (b.toNat ≠ 10)) = true := by simp [mr, hb]
     rw [sV, hn]
     rcases ih with ⟨h1, h2⟩ | ⟨k, h1, h2, h3⟩
     · left; rw [h1, h2]; simp [cZ]
     · right
       refine ⟨k + 1, ?_, by simp; omega, ?_⟩
       · rw [h1, cZ]
         have : ((k : Int) == -1) = false := by simp
         simp [this]
       · simp only [if_true, List.take_succ_cons, h3]
theorem Lw (u : aZ) (hu : u.length <= 100000) : ∃ y z, Pure K 148 [.str u, .str yA] (.aN [.str (u.takeWhile fun c => c.toNat ≠ 10), y, z]) := by
 have go : ∀ x y z, Pure K 212 [.str u, .str yA] (.aN [x, y, z]) -> Pure K 148 [.str u, .str yA] (.aN [x, y, z]) := fun x y z h U R hR => by
  refine JC ?_
  refine h.go ?_
  simp only [bL, List.drop, bB]
  exact al.mk hR
 have hi := rI u 10
 rcases yu u with ⟨h1, h2⟩ | ⟨k, h1, h2, h3⟩
 · refine ⟨_, _, go _ (.str w_) (.bool false) fun U R hR => ?_⟩
   refine AF ?_
   refine hi.go ?_
   rw [h1]
   simp only [gI, ah, show decide ((0 : Int) <= -1) = false from rfl, a7]
   rw [h2] at hR
   exact al.mk hR
 · refine ⟨_, _, go _ (.str (u.drop (k + 1))) (.bool true) fun U R hR => ?_⟩
   refine AF ?_
   refine hi.go ?_
   rw [h1]
   have h0 : decide ((0 : Int) <= (k : Nat)) = true := by simp
   simp only [gI, ah, h0, bq, om, eT, eJ, fq, aC, kZ, o0, show (yA : List UInt8).length = 1 from rfl, eG]
   refine ⟨⟨by omega, by omega, by omega⟩, aX (by omega) (by omega), ⟨by omega, by omega, by omega⟩, ?_⟩
   rw [h3] at hR
   refine al.eq hR ?_
   have e1 : ((k : Int) + ((1 : Nat) : Int)).toNat = k + 1 := by omega
   simp [e1]
theorem Pv {U : St} {R : cu -> St -> Prop} {b n : Nat} {c : hX} {l : List Tk} {t : Tk} {a : AV} (hb : U.box b = some [.vec n c (fU (l ++ [t]))]) (hn : n = l.length + 1) (hl : l.length <= 900) (h : R (.ret (.int .i64 t.s.length)) U) : ae K 75 [a, .box b 0] U R := by
 refine ML ?_
 subst hn
 unfold OG
 simp only [fe hb, List.drop, bB, rL, ah, Wi]
 refine ⟨aX (by omega) (by omega), ?_⟩
 rw [Dp]
 refine ⟨by omega, ?_⟩
 have e : (((l.length + 1 : Nat) : Int) - 1).toNat = l.length := by omega
 rw [e]
 obtain ⟨r, hr⟩ := zB (L := l ++ [t]) (i := l.length) (t := t) (by simp)
 rw [hr]
 simp only [cQ, ah, lP, jh, List.drop, ox, bB, kZ]
 exact al.mk h
def td (l : List Tk) : AV := if l = [] then .ag else .vec l.length .gl (fU l)
theorem wC (l l' : List Tk) : fU (l ++ l') = fU l ++ fU l' := by simp [fU]
structure TI (U : St) (b1 b2 b3 b4 b7 bs bd : Nat) (s : aZ) (l : List Tk) : Prop where
 h1 : U.box b1 = some [.str s]
 h2 : ∃ x, U.box b2 = some [x]
 h3 : ∃ x, U.box b3 = some [x]
 h4 : ∃ x, U.box b4 = some [x]
 h7 : ∃ v, U.box b7 = some [v] /\ Grow U v 51 3 l.length (fU l) /\ (l = [] -> v = .ag)
 hs : U.box bs = some [.str s]
 hd : U.box bd = some [.func (.func 75) [] [.box b7 0]]
theorem fE {U ad : St} {b : Nat} (h : ad.live b = U.live b) : ad.loop b = U.loop b := by simp [St.loop, h]
theorem fp {U : St} {b : Nat} {L : ey} : (U.set b (.loop L)).loop b = some L := by simp [St.loop, dL]
theorem wj {U : St} {b : Nat} {L : ey} : (U.new b (.loop L)).loop b = some L := by simp [St.loop, lZ]
theorem cz {U : St} {b b' : Nat} {l : List AV} {L : ey} (h : U.box b = some l) (k : U.loop b' = some L) : b ≠ b' := by
 rintro rfl
 unfold St.box at h; unfold St.loop at k
 split at k
 · rename_i e; simp [e] at h
 · cases k
theorem wD {U : St} {b b' : Nat} {l : Tok} {L : ey} (h : U.tok b = some l) (k : U.loop b' = some L) : b ≠ b' := by
 rintro rfl
 unfold St.tok at h; unfold St.loop at k
 split at k
 · rename_i e; simp [e] at h
 · cases k
theorem TI.nK {U : St} {b1 b2 b3 b4 b7 bs bd o : Nat} {s : aZ} {l : List Tk} (T : TI U b1 b2 b3 b4 b7 bs bd s l) {L L' : ey} (hL : U.loop o = some L) : TI (U.set o (.loop L')) b1 b2 b3 b4 b7 bs bd s l := by
 have k : ∀ {b : Nat} {x : List AV}, U.box b = some x -> (U.set o (.loop L')).box b = some x := fun h => by rw [aE (cz h hL)]; exact h
 obtain ⟨v, g1, g2, g3⟩ := T.h7
 refine ⟨k T.h1, T.h2.imp fun _ h => k h, T.h3.imp fun _ h => k h, T.h4.imp fun _ h => k h, ⟨v, k g1, ?_, g3⟩, k T.hs, k T.hd⟩
 rcases g2 with g2 | ⟨τ, e, ht, hl⟩
 · exact .inl g2
 · exact .inr ⟨τ, e, by rw [iy (wD ht hL)]; exact ht, hl⟩
theorem TI.vR {U ad : St} {b1 b2 b3 b4 b7 bs bd : Nat} {s : aZ} {l : List Tk} (T : TI U b1 b2 b3 b4 b7 bs bd s l) (e : cm U ad) : TI ad b1 b2 b3 b4 b7 bs bd s l := by
 obtain ⟨v, g1, g2, g3⟩ := T.h7
 refine ⟨e.bf T.h1, T.h2.imp fun _ h => e.bf h, T.h3.imp fun _ h => e.bf h, T.h4.imp fun _ h => e.bf h, ⟨v, e.bf g1, ?_, g3⟩, e.bf T.hs, e.bf T.hd⟩
 rcases g2 with g2 | ⟨τ, e1, ht, hl⟩
 · exact .inl g2
 · exact .inr ⟨τ, e1, e.tok ht, hl⟩
theorem Pure.Oj {f : Nat} {args : List AV} {x : AV} (hargs : bS args = true) (hx : closed x = true)
 (h : ∀ R : cu -> St -> Prop, (∀ v ad, resolve 5 ad v = x -> R (.ret v) ad) -> ae K f args (br ⟨.e, 0⟩) R) : Pure K f args x :=
 Pure.vE qK hargs hx 5 (h _ fun v ad e => ⟨v, rfl, e⟩)
theorem D2 (n : Nat) (U : St) (l : List Tk) : (fU l).map (resolve (n + 1) U) = fU l := by
 induction l with
 | nil => rfl
 | cons t l ih =>
   show ((lP t ++ fU l).map (resolve (n + 1) U)) = lP t ++ fU l
   rw [List.map_append, ih]; rfl
theorem Fu (l : List Tk) : bS (fU l) = true := by
 induction l with
 | nil => rfl
 | cons t l ih => show bS (lP t ++ fU l) = true; simp [lP, bS, closed, ih]
theorem DB (l : List Tk) : closed (td l) = true := by
 unfold td; split
 · rfl
 · exact Fu l
theorem CZ {U ad : St} {v : AV} {l : List Tk} (n : Nat) (h : Grow U v 51 3 l.length (fU l)) (h0 : l = [] -> v = .ag) : resolve (n + 2) ad v = td l := by
 unfold td
 split
 · rename_i e; rw [h0 e]; rfl
 · rename_i e
   rcases h with ⟨h1, _, _⟩ | ⟨τ, rfl, _, _⟩
   · exact absurd (pK.1 h1) e
   · show AV.vec l.length .gl ((fU l).map (resolve (n + 1) ad)) = _
     rw [D2]
def u7 : Bl -> AV
 | .ok l => .aN [td l, .int .i64 0, .int .i64 0]
 | .bad p e => .aN [.ag, .int .i64 p, .int .i64 e]
theorem cm.loop {U ad : St} {b : Nat} {L : ey} (h : cm U ad) (k : U.loop b = some L) : ad.loop b = some L := by
 cases e : U.live b with
 | none => simp [St.loop, e] at k
 | some x => rw [fE ((h b x e).trans e.symm)]; exact k
theorem zT {U ad : St} {v : AV} {e sz n : Nat} {l : List AV} (g : Grow U v e sz n l) (e1 : ∀ b x, (∀ n l, v ≠ .vec n (.own b) l) -> U.live b = some x -> ad.live b = some x) :
 (∀ {b : Nat} {x : List AV}, U.box b = some x -> ad.box b = some x) /\ (∀ {b : Nat} {L : ey}, U.loop b = some L -> ad.loop b = some L) := by
 refine ⟨fun {b x} h => ?_, fun {b L} h => ?_⟩
 · cases e : U.live b with
   | none => exact absurd e (bR h)
   | some y =>
     have := e1 b y (fun n' l' hv => by
      rcases g with ⟨_, _, g⟩ | ⟨τ, g, ht, _⟩
      · rw [g] at hv; cases hv
      · rw [g] at hv; cases hv; exact eU h ht rfl) e
     rw [fZ (this.trans e.symm)]; exact h
 · cases e : U.live b with
   | none => simp [St.loop, e] at h
   | some y =>
     have := e1 b y (fun n' l' hv => by
      rcases g with ⟨_, _, g⟩ | ⟨τ, g, ht, _⟩
      · rw [g] at hv; cases hv
      · rw [g] at hv; cases hv; exact wD ht h rfl) e
     rw [fE (this.trans e.symm)]; exact h
theorem TA {U : St} {b2 b3 b4 : Nat} {lv : AV} {p e : Int} {K' : AV -> St -> Prop} {Kp : AV -> St -> Prop} (h2 : ∃ x, U.box b2 = some [x]) (h3 : ∃ x, U.box b3 = some [x]) (h4 : ∃ x, U.box b4 = some [x]) (EJ : b2 ≠ b3) (EK : b2 ≠ b4) (CI : b3 ≠ b4) (hl : lv.cC = true /\ au lv = [lv])
 (h : ∀ jN, jN.box b2 = some [lv] -> jN.box b3 = some [.int .i64 p] -> jN.box b4 = some [.int .i64 e] -> (∀ b, b ≠ b2 -> b ≠ b3 -> b ≠ b4 -> jN.live b = U.live b) -> K' (.aN []) jN) :
 (aF (some (false, 1)) (.box b2 0) lv U).wp K U (fun _ U => (aF (some (false, 1)) (.box b3 0) (.int .i64 p) U).wp K U (fun _ U => (aF (some (false, 1)) (.box b4 0) (.int .i64 e) U).wp K U K' Kp) Kp) Kp := by
 obtain ⟨x2, h2⟩ := h2
 obtain ⟨x3, h3⟩ := h3
 obtain ⟨x4, h4⟩ := h4
 rw [cF h2]
 refine ⟨⟨hl.1, by rw [hl.2]; rfl, by simp⟩, ?_⟩
 rw [cF (show (U.set b2 _).box b3 = some [x3] by rw [aE EJ.symm]; exact h3)]
 refine ⟨⟨rfl, rfl, by simp⟩, ?_⟩
 rw [cF (show ((U.set b2 _).set b3 _).box b4 = some [x4] by rw [aE CI.symm, aE EK.symm]; exact h4)]
 refine ⟨⟨rfl, rfl, by simp⟩, h _ ?_ ?_ ?_ fun b m2 m3 m4 => ?_⟩
 · rw [aE EK, aE EJ, aR, hl.2]; rfl
 · rw [aE CI, aR]; rfl
 · rw [aR]; rfl
 · rw [dL, if_neg m4, dL, if_neg m3, dL, if_neg m2]
theorem D6 (s : aZ) (hs : s.length <= 3000) : Pure K 33 [.str s] (u7 (mS s)) := by
 refine Pure.Oj rfl (by cases mS s with | ok l => simp [u7, closed, bS, DB] | bad p e => rfl) fun R hR => ?_
 refine MC ?_
 unfold Ox
 rw [eC rfl]
 intro b1 fC
 rw [cw]
 intro b2 jO
 rw [cw]
 intro b3 gS
 rw [cw]
 intro b4 kB
 have n12 : b1 ≠ b2 := jO.cn aD
 have g1 := aD (U := br ⟨.e, 0⟩) (b := b1) (l := au (.str s))
 generalize L6 : (br _).new b1 _ = bH at *
 have Wq := (bj jO (x := .box [.ag])).bf g1
 have g2 := aD (U := bH) (b := b2) (l := [.ag])
 generalize L7 : bH.new b2 _ = bJ at *
 have RF := (bj gS (x := .box [.int .i64 0])).bf Wq
 have RG := (bj gS (x := .box [.int .i64 0])).bf g2
 have g3 := aD (U := bJ) (b := b3) (l := [.int .i64 0])
 have EJ : b2 ≠ b3 := gS.cn g2
 generalize Yp : bJ.new b3 _ = c7 at *
 have k1 := (bj kB (x := .box [.int .i64 0])).bf RF
 have k2 := (bj kB (x := .box [.int .i64 0])).bf RG
 have k3 := (bj kB (x := .box [.int .i64 0])).bf g3
 have k4 := aD (U := c7) (b := b4) (l := [.int .i64 0])
 have EK : b2 ≠ b4 := kB.cn RG
 have CI : b3 ≠ b4 := kB.cn g3
 generalize Cn : c7.new b4 _ = cH at *
 clear L6 L7 Yp Cn g1 Wq RF g2 RG g3 fC jO gS kB
 replace k1 : cH.box b1 = some [.str s] := k1
 have fin : ∀ (ad : St) (lv : AV) (p e : Int), ad.box b2 = some [lv] -> ad.box b3 = some [.int .i64 p] -> ad.box b4 = some [.int .i64 e] -> (∀ jN, resolve 5 jN (.aN [lv, .int .i64 p, .int .i64 e]) = u7 (mS s)) ->
  bA (some (false, 1)) (.box b2 0) ad fun r0 => bA (some (false, 1)) (.box b3 0) ad fun r1 => bA (some (false, 1)) (.box b4 0) ad fun r2 => al R (.aN [r0, r1, r2]) ad := by
  intro ad lv p e m2 m3 m4 hres
  rw [CW m2 (dU), CW m3 (dU), CW m4 (dU)]
  exact al.mk (hR _ _ (hres _))
 simp only [fe k1, zN, List.drop, bB]
 refine (Lu s).go ?_
 simp only [bL, List.drop, bB, cO, ah]
 have gn : mS s = if (qG s).2 ≠ 0 then .bad (qG s).1 (qG s).2 else j9 s.length s 0 [] := rfl
 by_cases he : (qG s).2 = 0
 · simp only [he, cX, cq, a7]
   rw [if_neg (by simp [he])] at gn
   rw [cw]
   intro b7 p9
   have n71 := (p9.cn k1).symm
   have n72 := (p9.cn k2).symm
   have n73 := (p9.cn k3).symm
   have n74 := (p9.cn k4).symm
   have e5 := bj p9 (x := .box [.ag])
   have m7 := aD (U := cH) (b := b7) (l := [.ag])
   generalize Yq : cH.new b7 _ = dy at *
   rw [fe (e5.bf k1), dU, bB]
   refine MM ?_
   unfold OH
   rw [eC rfl]
   intro bs HU
   have n7s := HU.cn m7
   have e6 := bj HU (x := .box (au (.str s)))
   have ms := aD (U := dy) (b := bs) (l := au (.str s))
   generalize Yr : dy.new bs _ = ny at *
   rw [eC rfl]
   intro bd RR
   have n7d := RR.cn (e6.bf m7)
   have e7 := bj RR (x := .box (au (.func (.func 75) [] [.box b7 0])))
   have md := aD (U := ny) (b := bd) (l := au (.func (.func 75) [] [.box b7 0]))
   generalize Ys : ny.new bd _ = gz at *
   refine al.mk ?_
   refine ⟨by kernel_rfl, fun o L ho HR RO Y => ?_⟩
   have HC := e5.trans (e6.trans e7)
   have T7 : TI gz b1 b2 b3 b4 b7 bs bd s [] := ⟨HC.bf k1, ⟨_, HC.bf k2⟩, ⟨_, HC.bf k3⟩, ⟨_, HC.bf k4⟩, ⟨_, (e6.trans e7).bf m7, .inl ⟨rfl, rfl, rfl⟩, fun _ => rfl⟩, e7.bf ms, md⟩
   have T8 := T7.vR (bj ho (x := .loop L))
   have L8 := wj (U := gz) (b := o) (L := L)
   generalize Yt : gz.new o _ = lS at *
   clear Yq Yr Ys Yt T7 HC e5 e6 e7 m7 ms md ho RR HU p9 k1 k2 k3 k4
   refine JB ?_
   unfold JA
   refine ⟨fun m v0 v1 v2 v4 ad => ∃ f p l, m = s.length - p /\ v0 = .oy o /\ v1 = .box bs 0 /\ v2 = .box bd 0 /\ v4 = .int .i64 (p : Nat) /\ p <= s.length /\ s.length - p <= f /\ l.length <= 900 /\ j9 f s p l = mS s /\ TI ad b1 b2 b3 b4 b7 bs bd s l /\ ∃ L1, ad.loop o = some L1 /\ L1.st .ready none = L /\ L1.state = .ready /\ L1.ee = none,
    ⟨_, s.length, 0, [], rfl, rfl, rfl, rfl, rfl, by omega, by omega, by simp, gn.symm, T8, L, L8, by cases L; simp_all [ey.st], HR, RO⟩, ?_⟩
   clear T8 L8 gn he
   rintro m v0 v1 v2 v4 nr ⟨f, p, l, rfl, rfl, rfl, rfl, rfl, hp, hf, Sg, gn, T, L1, oc, eL, Cd, Aa⟩
   rw [fe T.hs, dU, bB]
   simp only [kZ, ah, bP, bE]
   refine ⟨fun aK => ?_, fun hY => ?_⟩
   · have aK : p < s.length := by omega
     have xO : s.drop p = s[p] :: s.drop (p + 1) := gp aK
     cases f with
     | zero => omega
     | succ f =>
     simp only [j9] at gn
     rw [xO] at gn
     simp only at gn
     rw [fe T.hs, dU, bB, yJ]
     refine ⟨by omega, ?_⟩
     rw [eG, getD_at aK]
     intro jj wa
     have Zq : ((s[p].toNat : Int) = 32) = (s[p].toNat = 32) := by simp; omega
     have Zp : ((s[p].toNat : Int) = 10) = (s[p].toNat = 10) := by simp; omega
     have XN : ((s[p].toNat : Int) = 126) = (s[p].toNat = 126) := by simp; omega
     have blank : s[p].toNat = 32 \/ s[p].toNat = 10 -> jj (.oy o) (.box bs 0) (.box bd 0) (.int .i64 (p : Nat)) (.int .u8 s[p].toNat) (.bool true) nr := fun h => by
      refine wa _ _ _ _ _ _ _ ?_
      rw [if_pos h] at gn
      simp only [bq, c8]
      exact ⟨aX (by omega) (by omega), _, by omega, f, p + 1, l, rfl, rfl, rfl, rfl, by simp, by omega, by omega, Sg, gn, T, L1, oc, eL, Cd, Aa⟩
     have other : ¬ (s[p].toNat = 32 \/ s[p].toNat = 10) -> jj (.oy o) (.box bs 0) (.box bd 0) (.int .i64 (p : Nat)) (.int .u8 s[p].toNat) (.bool false) nr := fun h => by
      refine wa _ _ _ _ _ _ _ ?_
      rw [if_neg h] at gn
      simp only [a7, bl, ah, bE, XN]
      have after : ∀ {jN : St} {L2 : ey}, L2 = { L1 with state := .ready, ee := none } -> L2.st .ready none = L /\ L2.state = .ready /\ L2.ee = none := fun h => by
       subst h; exact ⟨by rw [<- eL]; rfl, rfl, rfl⟩
      refine ⟨fun FQ => ?_, fun FQ => ?_⟩
      · rw [if_pos FQ] at gn
        rw [fe T.hs, dU, bB]
        have hdn : ((s.take s.length).drop p) = s[p] :: s.drop (p + 1) := by rw [qS, xO]
        simp only [om, eT, eJ, wp_cond, ah, eG, hdn]
        refine ⟨⟨by omega, by omega, by omega⟩, ?_⟩
        obtain ⟨y, z, X4⟩ := Lw (s[p] :: s.drop (p + 1)) (by rw [<- xO]; simp; omega)
        refine X4.go ?_
        have hlen : ((s[p] :: s.drop (p + 1)).takeWhile fun c => c.toNat ≠ 10).length <= s.length - p := by
         rw [<- xO]; exact Nat.le_trans (List.takeWhile_prefix _).length_le (by simp)
        have bW : 1 <= ((s[p] :: s.drop (p + 1)).takeWhile fun c => c.toNat ≠ 10).length /\ ((s[p] :: s.drop (p + 1)).takeWhile fun c => c.toNat ≠ 10) ≠ [] := by
         rw [sV]; simp [FQ]
        generalize ((s[p] :: s.drop (p + 1)).takeWhile fun c => c.toNat ≠ 10) = nt at *
        simp only [bL, List.drop, bB]
        simp only [fo, xq]
        refine Y _ _ _ L1 rfl oc eL ?_
        refine ⟨L1, oc, Cd, ?_⟩
        have hnn : ¬ nt = w_ := bW.2
        simp only [qF, ah, hnn, dz, dR, bq]
        refine ⟨_, fp, ?_⟩
        simp only [bz, dt, ah, cq, a7, kZ, c8]
        refine ⟨aX (by omega) (by omega), _, ?_, f, p + nt.length, l, rfl, rfl, rfl, rfl, by simp, by omega, by omega, Sg, gn, (T.nK oc).nK fp, _, fp, ?_⟩
        · omega
        · exact ⟨by rw [<- eL]; rfl, rfl, rfl⟩
      · rw [if_neg FQ] at gn
        simp only [fo, xq]
        refine Y _ _ _ L1 rfl oc eL ?_
        refine ⟨L1, oc, Cd, ?_⟩
        have T2 := T.nK (L' := { L1 with state := .busy }) oc
        have L2 : (nr.set o (.loop { L1 with state := .busy })).loop o = some { L1 with state := .busy } := fp
        generalize VH : nr.set o (.loop { L1 with state := .busy }) = tn at *
        simp only [qF, ah, cX, cq, a7]
        rw [fe T2.h1, dU, bB]
        have hdn : ((s.take s.length).drop p) = s[p] :: s.drop (p + 1) := by rw [qS, xO]
        simp only [om, eT, eJ, wp_cond, ah, eG, hdn]
        refine ⟨⟨by omega, by omega, by omega⟩, ?_⟩
        refine (FC (s[p] :: s.drop (p + 1)) (by rw [<- xO]; simp; omega)).go ?_
        cases pA : ia (s[p] :: s.drop (p + 1)) with
        | mk e kt =>
        obtain ⟨k, tx⟩ := kt
        rw [pA] at gn
        simp only at gn
        simp only [GS, bL, List.drop, bB]
        rw [cw]
        intro eX nD
        have g11 : (tn.new eX (.box [AV.int .u8 0, AV.str [], AV.int .i64 0])).box eX = some [AV.int .u8 0, AV.str [], AV.int .i64 0] := aD
        rw [cF g11]
        refine ⟨⟨rfl, rfl, by simp⟩, ?_⟩
        have Qm := ((cm.refl tn).new nD (x := .box [AV.int .u8 0, AV.str [], AV.int .i64 0])).set (x := .box (aw [AV.int .u8 0, AV.str [], AV.int .i64 0] 0 (au (.agg [.int .u8 (k : Nat), .str tx, .int .i64 0])))) nD.1
        have m11 : ((tn.new eX (.box [AV.int .u8 0, AV.str [], AV.int .i64 0])).set eX (.box (aw [AV.int .u8 0, AV.str [], AV.int .i64 0] 0 (au (.agg [.int .u8 (k : Nat), .str tx, .int .i64 0]))))).box eX = some [.int .u8 (k : Nat), .str tx, .int .i64 0] := by rw [aR]; rfl
        have n117 : b7 ≠ eX := nD.cn (T2.h7.choose_spec.1)
        generalize (tn.new eX (.box [AV.int .u8 0, AV.str [], AV.int .i64 0])).set eX (.box (aw [AV.int .u8 0, AV.str [], AV.int .i64 0] 0 (au (.agg [.int .u8 (k : Nat), .str tx, .int .i64 0])))) = tp at *
        have T3 := T2.vR Qm
        have L3 := Qm.loop L2
        have Vn : ∀ (b : Nat) (x : List AV), tn.box b = some x -> b ≠ eX := fun b x h => nD.cn h
        clear Qm g11 nD VH
        intro j hj
        obtain ⟨v, q1, q2, q3⟩ := T3.h7
        have cont : ∀ e' : Int, (e' ≠ 0 -> mS s = .bad p e') -> (e' = 0 -> l.length < 900 /\ 0 < tx.length /\ j9 f s (p + tx.length) (l ++ [⟨k, tx, p⟩]) = mS s) -> (e' = 0 -> e = 0) -> j (.box b2 0) (.box b3 0) (.box b4 0) (.box b7 0) (.int .i64 (p : Nat)) (.box eX 0) (.int .i64 e') tp := by
         intro e' XZ Vu R3
         refine hj _ _ _ _ _ _ _ _ ?_
         by_cases iL : e' = 0
         · obtain ⟨aaj, fY, Sj⟩ := Vu iL
           simp only [iL, cO, ah, cX, cq, a7, aU, cD]
           rw [cF m11]
           refine ⟨⟨rfl, rfl, by simp⟩, ?_⟩
           have kp : ∀ {b : Nat} {x : List AV}, b ≠ eX -> tp.box b = some x -> (tp.set eX (.box (aw [.int .u8 (k : Nat), .str tx, .int .i64 0] 2 (au (.int .i64 (p : Nat)))))).box b = some x := fun h1 h2 => by rw [aE h1]; exact h2
           rw [fe (kp n117 q1), dU, bB]
           rw [nZ aR]
           refine ⟨by simp [aw], ?_⟩
           have S7 : Grow (tp.set eX (.box (aw [.int .u8 (k : Nat), .str tx, .int .i64 0] 2 (au (.int .i64 (p : Nat)))))) v 51 3 l.length (fU l) := by
            rcases q2 with q2 | ⟨τ, r1, r2, r3⟩
            · exact .inl q2
            · exact .inr ⟨τ, r1, by rw [iy (eU m11 r2).symm]; exact r2, r3⟩
           have ud : ∀ {b : Nat} {x : List AV}, tp.box b = some x -> b ≠ eX -> (tp.set eX (.box (aw [.int .u8 (k : Nat), .str tx, .int .i64 0] 2 (au (.int .i64 (p : Nat)))))).box b = some x := fun h1 h2 => kp h2 h1
           have Xd : (tp.set eX (.box (aw [.int .u8 (k : Nat), .str tx, .int .i64 0] 2 (au (.int .i64 (p : Nat)))))).loop o = some { L1 with state := .busy } := by
            rw [fE]; exact L3
            rw [dL, if_neg (cz m11 L3).symm]
           have BR : (List.take 3 (List.drop 0 (aw [.int .u8 (k : Nat), .str tx, .int .i64 0] 2 (au (.int .i64 (p : Nat)))))) = lP ⟨k, tx, p⟩ := by simp [aw, lP]
           rw [BR]
           generalize tp.set eX (.box (aw [.int .u8 (k : Nat), .str tx, .int .i64 0] 2 (au (.int .i64 (p : Nat))))) = aam at *
           rw [gq]
           refine ⟨by omega, ?_⟩
           rw [eD (o := 0) (s := 3) rfl]
           refine ⟨⟨rfl, rfl, by simp [bw]⟩, ?_⟩
           rw [ib]
           refine ⟨rfl, ?_⟩
           have Om := ud q1 n117
           refine G7 (m := 1) (l2 := lP ⟨k, tx, p⟩) S7 rfl rfl (by omega) (by omega) (fun h => q3 (pK.1 h)) fun zH v' g1 g2 g3 => ?_
           obtain ⟨kb, kl⟩ := zT S7 g2
           have xY : v'.cC = true /\ au v' = [v'] := by
            rcases g1 with ⟨_, _, rfl⟩ | ⟨τ, rfl, _, _⟩ <;> exact ⟨rfl, rfl⟩
           rw [cF (kb Om)]
           refine ⟨⟨xY.1, by rw [xY.2]; rfl, by simp⟩, ?_⟩
           have kk : ∀ {b : Nat} {x : List AV}, b7 ≠ b -> zH.box b = some x -> (zH.set b7 (.box (aw [v] 0 (au v')))).box b = some x := fun h1 h2 => by rw [aE h1.symm]; exact h2
           have lo : (zH.set b7 (.box (aw [v] 0 (au v')))).loop o = some { L1 with state := .busy } := by
            rw [fE]; exact kl Xd
            rw [dL, if_neg (cz (kb Om) (kl Xd)).symm]
           have yS : ∀ {b : Nat} {x : List AV}, tn.box b = some x -> b ≠ eX := fun h => Vn _ _ h
           have T5 : TI (zH.set b7 (.box (aw [v] 0 (au v')))) b1 b2 b3 b4 b7 bs bd s (l ++ [⟨k, tx, p⟩]) := by
            refine ⟨kk n71 (kb (ud T3.h1 (yS T2.h1))), ?_, ?_, ?_, ⟨v', by rw [aR, xY.2]; rfl, ?_, fun h => by simp at h⟩, kk n7s (kb (ud T3.hs (yS T2.hs))), kk n7d (kb (ud T3.hd (yS T2.hd)))⟩
            · obtain ⟨x, hx⟩ := T2.h2; obtain ⟨y, hy⟩ := T3.h2; exact ⟨y, kk n72 (kb (ud hy (yS hx)))⟩
            · obtain ⟨x, hx⟩ := T2.h3; obtain ⟨y, hy⟩ := T3.h3; exact ⟨y, kk n73 (kb (ud hy (yS hx)))⟩
            · obtain ⟨x, hx⟩ := T2.h4; obtain ⟨y, hy⟩ := T3.h4; exact ⟨y, kk n74 (kb (ud hy (yS hx)))⟩
            · have el : (l ++ [(⟨k, tx, p⟩ : Tk)]).length = l.length + 1 := by simp
              rw [el, wC]
              rcases g1 with ⟨h0, _⟩ | ⟨τ, r1, r2, r3⟩
              · omega
              · exact .inr ⟨τ, r1, by rw [iy (eU (kb Om) r2).symm]; exact r2, r3⟩
           have Vw : ∃ c, v' = .vec (l.length + 1) c (fU (l ++ [⟨k, tx, p⟩])) := by
            rw [wC]
            rcases g1 with ⟨h0, _⟩ | ⟨τ, r1, _, _⟩
            · omega
            · exact ⟨_, r1⟩
           have Ww : (zH.set b7 (.box (aw [v] 0 (au v')))).box b7 = some [v'] := by rw [aR, xY.2]; rfl
           generalize zH.set b7 (.box (aw [v] 0 (au v'))) = Zg at *
           refine ⟨_, lo, ?_⟩
           have T6 := T5.nK (L' := { L1 with state := .ready, ee := none }) lo
           obtain ⟨c, hc⟩ := Vw
           subst hc
           have XV : (Zg.set o (.loop { L1 with state := .ready, ee := none })).box b7 = some [.vec (l.length + 1) c (fU (l ++ [⟨k, tx, p⟩]))] := by rw [aE (cz Ww lo)]; exact Ww
           simp only [bz, dt, ah, cq, a7]
           rw [fe T6.hd, dU, bB]
           simp only [show dj K.P 75 = true by kernel_rfl, if_true, hP, gH, jh]
           refine Pv XV rfl Sg ?_
           simp only [bz, c8]
           have mM : p + tx.length <= s.length := by
            have := (zC (s := s[p] :: s.drop (p + 1)) (k := k) (t := tx) (by rw [pA, R3 iL])).2.length_le
            rw [<- xO] at this
            simp at this
            omega
           refine ⟨aX (by omega) (by omega), _, ?_, f, p + tx.length, l ++ [⟨k, tx, p⟩], rfl, rfl, rfl, rfl, by simp, mM, by omega, by simp; omega, Sj, T6, _, fp, by rw [<- eL]; rfl, rfl, rfl⟩
           omega
         · simp only [iL, cO, ah, dz, dR, bq]
           refine TA T3.h2 T3.h3 T3.h4 EJ EK CI ⟨rfl, rfl⟩ fun jN m2 m3 m4 mo => ?_
           have ob : ∀ {b : Nat}, (∃ x, tp.box b = some [x]) -> o ≠ b := fun ⟨x, h⟩ => (cz h L3).symm
           have L4 : jN.loop o = some { L1 with state := .busy } := by rw [fE (mo o (ob T3.h2) (ob T3.h3) (ob T3.h4))]; exact L3
           refine ⟨_, L4, ?_⟩
           simp only [bz, dt, ah, dR, bq]
           refine al.mk ⟨_, fp, by simp, ?_⟩
           have kp : ∀ {b : Nat} {x : List AV}, o ≠ b -> jN.box b = some x -> ((jN.set o (.loop { L1 with state := .done, ee := some .ret })).del o).box b = some x := fun h1 h2 => by rw [iq h1.symm, aE h1.symm]; exact h2
           refine fin _ _ _ _ (kp (ob T3.h2) m2) (kp (ob T3.h3) m3) (kp (ob T3.h4) m4) fun c7 => ?_
           rw [XZ iL]; rfl
        have hlen : bU (some false) v = .val (.int .i64 l.length) := by
         rcases q2 with ⟨h0, _, rfl⟩ | ⟨τ, rfl, _, _⟩
         · rw [h0]; rfl
         · rfl
        simp only [bl, ah, aW, aM]
        by_cases zY : e = 0
        · subst zY
          simp only [cX, fK, bZ, oD q1, dU, fP, kP, hlen, aC, bl, aJ, if_true, ah, bE]
          rw [if_neg (by simp)] at gn
          refine ⟨fun XW => ?_, fun XW => ?_⟩
          · rw [if_pos (by omega)] at gn
            exact cont 5 (fun _ => gn.symm) (fun h => by omega) (fun h => by omega)
          · rw [if_neg (by omega)] at gn
            have fY := (zC pA).1.1
            exact cont 0 (fun h => absurd rfl h) (fun _ => ⟨by omega, List.length_pos_iff.2 fY, gn⟩) (fun _ => rfl)
        · simp only [zY, dz, show (false == true) = false from rfl, cc, aJ, bu, if_false, ah, a7]
          rw [if_pos zY] at gn
          exact cont e (fun _ => gn.symm) (fun h => absurd h zY) (fun h => h)
     simp only [bl, ah, bE, Zq, Zp]
     refine ⟨fun h => ?_, fun h => ?_⟩
     · simp only [h, cX]; rw [h] at blank; exact blank (.inl rfl)
     · by_cases mr : s[p].toNat = 10
       · simp only [mr, cX]; rw [mr] at blank; exact blank (.inr rfl)
       · simp only [mr, dz]; exact other (fun h1 => h1.elim h mr)
   · have ZY : s.drop p = [] := List.drop_eq_nil_of_le (by omega)
     have Sj : mS s = .ok l := by
      rw [<- gn]
      cases f with
      | zero => rfl
      | succ f => simp only [j9]; rw [ZY]
     refine al.mk ⟨L1, oc, by rw [Cd]; simp, ?_⟩
     rw [Aa]
     obtain ⟨v, g1, g2, g3⟩ := T.h7
     have dl : ∀ {b : Nat} {x : List AV}, nr.box b = some x -> (nr.del o).box b = some x := fun h => by rw [iq (cz h oc)]; exact h
     have hv : v.cC = true /\ au v = [v] := by
      rcases g2 with ⟨_, _, rfl⟩ | ⟨τ, rfl, _, _⟩ <;> exact ⟨rfl, rfl⟩
     show (aq (some (false, 1)) (.box b7 0) (nr.del o)).wp K (nr.del o) _ _
     rw [fe (dl g1), dU, bB]
     refine TA (T.h2.imp fun _ h => dl h) (T.h3.imp fun _ h => dl h) (T.h4.imp fun _ h => dl h) EJ EK CI hv fun jN m2 m3 m4 _ => ?_
     refine fin jN _ _ _ m2 m3 m4 fun c7 => ?_
     rw [Sj]
     show AV.aN [resolve 4 c7 v, .int .i64 0, .int .i64 0] = _
     rw [CZ 2 g2 g3]
     rfl
 · simp only [he, dz, dR, bq]
   rw [if_pos he] at gn
   refine TA ⟨_, k2⟩ ⟨_, k3⟩ ⟨_, k4⟩ EJ EK CI ⟨rfl, rfl⟩ fun dy m2 m3 m4 _ => ?_
   exact fin dy _ _ _ m2 m3 m4 fun jN => by rw [gn]; rfl
end Go.Rip
