/- Lemmas for the proof: no conditions. -/
import Derived.Test.YtnfpmiiopiinbaaGreatDoorRipZz
import Derived.Test.YtnfpmiiopiinbaaGreatDoorRipQ
set_option linter.unusedVariables false
set_option linter.unusedSimpArgs false
set_option linter.loopingSimpArgs false
namespace Go.Rip
open Go.Proofs Go.RowKit
def rr (X : Rx) (i : Nat) (bad : Bool) : List AV := [X.tv, .int .i64 i, .bool bad]
section
variable {X : Rx} {r i : Nat} {bad : Bool} {U : St} {R : cS -> St -> Prop}
theorem D5 (hr : U.box r = some (rr X i bad)) (h : R (.ret (.int .i64 (bM X.L 0 i))) U) : ad K 113 [.box r 0] U R := by
 refine Nv ?_
 simp only [Nu, bu, aJ, aR, jC hr, rr, List.drop, fw, X.tr.len, bh, aT, aj, bW]
 refine ⟨fun aL => ?_, fun gk => ?_⟩
 · have aL : i < X.L.length := by omega
   obtain ⟨c, hv, lD⟩ := X.tr.at (sz := 3) (e := 51) aL
   obtain ⟨t, ht⟩ : ∃ t, X.L[i]? = some t := ⟨X.L[i], by simp [aL]⟩
   obtain ⟨rest, hd⟩ := pO ht
   simp only [lD, jX, aJ, hd, eH, tj, jo, nT, oJ, List.drop, fw]
   refine ⟨by omega, al.mk ?_⟩
   have : bM X.L 0 i = t.at_ := by simp [bM, ht]
   rw [<- this]; exact h
 · refine al.mk ?_
   have : bM X.L 0 i = 0 := by simp [bM, l9 (show X.L.length <= i by omega)]
   rw [<- this]; exact h
theorem oY {k : AV -> Prop} {r : aw} {gv : AV} (hg : gv = .bool false) (h : k (.aU [])) : ae K gv r k := by rw [hg, aM, bz]; exact h
theorem uB {k : AV -> Prop} {x y : AV} (h : k x) : ar K (aY (.bool true) x y) k := h
theorem uA {k : AV -> Prop} {x y : AV} (h : k y) : ar K (aY (.bool false) x y) k := h
theorem acp {k : AV -> Prop} (h : k (.bool false)) : ar K (fZ .not (.bool true)) k := h
theorem aco {k : AV -> Prop} (h : k (.bool true)) : ar K (fZ .not (.bool false)) k := h
theorem dX {k : AV -> Prop} {r : aw} {gv v : AV} (hg : gv = .bool true) (hr : r = .val v) (h : k v) : ae K gv r k := by rw [hg, hr]; exact h
theorem qk {L l : List AV} {o : Nat} {x : AV} {k : AV -> Prop} {gv p : AV} (hg : gv = .bool true) (hr : U.box r = some L) (hp : p = .box r o) (hd : L.drop o = x :: l) (h : k x) : ae K gv (av (some (false, 1)) p U) k := by
 rw [hg, hp, ld hr, hd]; exact h
theorem sk {L l : List AV} {o : Nat} {x : AV} {k : AV -> Prop} (hr : U.box r = some L) (hd : L.drop o = x :: l) (h : k x) : ar K (aI (.box r 0)) fun v2 => ar K (ag (some o) v2) fun v3 => ar K (av (some (false, 1)) v3 U) k := by
 show ar K (av (some (false, 1)) (.box r (0 + o)) U) k
 rw [ld hr, bW, hd]; exact h
theorem Ky {v : AV} {n : Nat} {cs : List AV} {k : AV -> Prop} {gv : AV} (hg : gv = .bool true) (hv : iJ v n cs) (h : k (.int .i64 n)) : ae K gv (bD (some false) v) k := by
 rw [hg, hv.len]; exact h
theorem Gw {t : Tk} {e : Nat} {k : AV -> Prop} {gv : AV} (hg : gv = .bool true) (ht : X.L[i]? = some t) (h : ∀ rest, k (.cP (jo t ++ rest))) : ae K gv (aH (some (e, 3)) none X.tv (.int .i64 (i : Nat))) k := by
 have aL := (dP.1 ht).1
 obtain ⟨c, hv, lD⟩ := X.tr.at (sz := 3) (e := e) aL
 obtain ⟨rest, pC⟩ := pO ht
 rw [hg, lD, pC]
 exact ⟨fun _ => by omega, h rest⟩
theorem rH (hr : U.box r = some (rr X i bad)) (w : aZ) (h : R (.ret (.bool (!bad && bl X.L i w))) U) : ad K 173 [.box r 0, .str w] U R := by
 refine OX ?_
 unfold OW
 refine sk (o := 2) hr rfl ?_
 have no : bl X.L i w = false \/ bad = true -> al R (.bool false) U := fun hn => by
  refine al.eq h ?_
  rcases hn with hn | hn <;> simp [hn]
 cases bad with
 | true =>
   refine acp ?_
   iterate 10 refine oY rfl ?_
   refine uA ?_
   iterate 13 refine oY rfl ?_
   refine uA ?_
   iterate 26 refine oY rfl ?_
   refine uA ?_
   exact no (.inr rfl)
 | false =>
   refine aco ?_
   refine dX rfl rfl ?_
   refine dX rfl rfl ?_
   refine dX rfl rfl ?_
   refine qk (o := 1) rfl hr rfl rfl ?_
   refine dX rfl rfl ?_
   refine dX rfl rfl ?_
   refine dX rfl rfl ?_
   refine qk (o := 0) rfl hr rfl rfl ?_
   refine Ky rfl X.tr ?_
   by_cases aL : i < X.L.length
   · obtain ⟨t, ht⟩ : ∃ t, X.L[i]? = some t := ⟨X.L[i], by simp [aL]⟩
     have hw : bl X.L i w = ((t.k == 3 || t.k == 4) && decide (t.s = w)) := by
      unfold bl; rw [ht, nq]; simp
     refine dX (v := .bool true) rfl (by rw [bh]; simp; omega) ?_
     refine uB ?_
     refine dX rfl rfl ?_
     refine dX rfl rfl ?_
     refine dX rfl rfl ?_
     refine qk (o := 0) rfl hr rfl rfl ?_
     refine dX rfl rfl ?_
     refine dX rfl rfl ?_
     refine dX rfl rfl ?_
     refine qk (o := 1) rfl hr rfl rfl ?_
     refine Gw rfl ht fun r1 => ?_
     refine dX rfl rfl ?_
     refine dX (v := .str t.s) rfl rfl ?_
     refine dX rfl rfl ?_
     refine dX (v := .bool (decide (t.s = w))) rfl (by rw [iV]) ?_
     refine uB ?_
     by_cases hs : t.s = w
     · have dT : (AV.bool (decide (t.s = w))) = .bool true := by simp [hs]
       rw [dT]
       refine dX rfl rfl ?_
       refine dX rfl rfl ?_
       refine dX rfl rfl ?_
       refine qk (o := 0) rfl hr rfl rfl ?_
       refine dX rfl rfl ?_
       refine dX rfl rfl ?_
       refine dX rfl rfl ?_
       refine qk (o := 1) rfl hr rfl rfl ?_
       refine Gw rfl ht fun r2 => ?_
       refine dX rfl rfl ?_
       refine dX (v := .int .u8 t.k) rfl rfl ?_
       by_cases h3 : t.k = 3
       · refine dX (v := .bool true) rfl (by rw [aV]; simp; omega) ?_
         refine dX rfl rfl ?_
         iterate 12 refine oY rfl ?_
         refine dX (v := .bool true) rfl rfl ?_
         refine uB ?_
         refine al.eq h ?_
         rw [hw]; simp [h3, hs]
       · refine dX (v := .bool false) rfl (by rw [aV]; simp; omega) ?_
         refine dX rfl rfl ?_
         refine dX rfl rfl ?_
         refine dX rfl rfl ?_
         refine dX rfl rfl ?_
         refine qk (o := 0) rfl hr rfl rfl ?_
         refine dX rfl rfl ?_
         refine dX rfl rfl ?_
         refine dX rfl rfl ?_
         refine qk (o := 1) rfl hr rfl rfl ?_
         refine Gw rfl ht fun r3 => ?_
         refine dX rfl rfl ?_
         refine dX (v := .int .u8 t.k) rfl rfl ?_
         refine dX (v := .bool (decide (t.k = 4))) rfl (by rw [aV]; simp; omega) ?_
         refine dX (v := .bool (decide (t.k = 4))) rfl rfl ?_
         refine uB ?_
         refine al.eq h ?_
         rw [hw]
         by_cases h4 : t.k = 4 <;> simp [h3, h4, hs]
     · have dT : (AV.bool (decide (t.s = w))) = .bool false := by simp [hs]
       rw [dT]
       iterate 26 refine oY rfl ?_
       refine uA ?_
       exact no (.inl (by rw [hw]; simp [hs]))
   · have hw : bl X.L i w = false := by unfold bl; rw [l9 (by omega)]
     refine dX (v := .bool false) rfl (by rw [bh]; simp; omega) ?_
     refine uB ?_
     iterate 13 refine oY rfl ?_
     refine uA ?_
     iterate 26 refine oY rfl ?_
     refine uA ?_
     exact no (.inl hw)
theorem I8 (hr : U.box r = some (rr X i bad)) (k : Nat) (h : R (.ret (.bool (!bad && eP X.L i k))) U) : ad K 174 [.box r 0, .int .u8 k] U R := by
 refine OZ ?_
 unfold OY
 simp only [bu, aJ, aR, jC hr, rr, List.drop, fw, cZ, aS, aM, iz, bW]
 cases bad with
 | true =>
   simp only [cC, show (false == true) = false from rfl, bz, aF, bH, if_false, aJ, aS, aM]
   exact al.mk h
 | false =>
   simp only [dk, dN, bG, aJ, eN, bu, aR, jC hr, rr, List.drop, fw, bW, X.tr.len, bh, aF, if_true, aS, aM]
   by_cases aL : i < X.L.length
   · have jM : (i : Int) < X.L.length := by omega
     obtain ⟨c, hv, lD⟩ := X.tr.at (sz := 3) (e := 51) aL
     obtain ⟨t, ht⟩ : ∃ t, X.L[i]? = some t := ⟨X.L[i], by simp [aL]⟩
     obtain ⟨rest, hd⟩ := pO ht
     simp only [jM, cj, dN, bG, aJ, eN, bu, aR, jC hr, rr, List.drop, fw, bW, lD, jX, hd, jo, nT, oJ, eH, tj, aV, aF, if_true, aS, aM]
     refine ⟨by simp, ?_⟩
     have e3 : ((t.k : Int) = (k : Int)) = (t.k = k) := by simp; omega
     have hw : eP X.L i k = decide (t.k = k) := by
      unfold eP; rw [ht]; rw [nq]; simp
     rw [hw] at h
     simp only [e3]
     exact al.mk h
   · have jM : ¬ (i : Int) < X.L.length := by omega
     have hw : eP X.L i k = false := by unfold eP; rw [l9 (by omega)]
     rw [hw] at h
     simp only [jM, cM, show (false == true) = false from rfl, bz, aF, bH, if_false, aJ, aS, aM]
     exact al.mk h
end
end Go.Rip
namespace Go.Rip
open Go.Proofs Go.RowKit
section
variable {X : Rx} {r i : Nat} {bad : Bool} {U : St} {R : cS -> St -> Prop}
theorem GB (hr : U.box r = some (rr X i bad)) : (U.set r (.box (az (rr X i bad) 2 (aC (.bool true))))).box r = some (rr X i true) := by rw [bf]; simp [az, rr]
theorem Ss (hr : U.box r = some (rr X i bad)) (w : aZ) (h1 : bad = false -> bl X.L i w = true -> ∀ af, eg r (rr X (i + 1) false) U af -> R (.ret (.bool true)) af) (h2 : bad = true \/ bl X.L i w = false -> R (.ret (.bool false)) U) : ad K 114 [.box r 0, .str w] U R := by
 refine Nw ?_
 have hs := X.small
 refine rH hr w ?_
 simp only [bg, cZ, aj]
 cases hb : (!bad && bl X.L i w) with
 | false =>
   simp only [dk, aK]
   refine al.mk (h2 ?_)
   cases bad <;> simp_all
 | true =>
   have nw : bad = false := by cases bad <;> simp_all
   subst nw
   have hw : bl X.L i w = true := by simpa using hb
   have aL := cu hw
   simp only [cC, aE, bu, aj, aR, bW]
   rw [eG hr]
   simp only [rr, List.drop, bq, cI]
   refine ⟨bp (by omega) (by omega), ?_⟩
   rw [cT hr]
   refine ⟨⟨rfl, rfl, by simp [rr]⟩, al.mk (h1 rfl hw _ ⟨?_, (gj.refl _ _).set (.inr rfl)⟩)⟩
   rw [bf]; simp [az, rr]
theorem Jc (hr : U.box r = some (rr X i bad)) (w : aZ) (h1 : bad = false -> bl X.L i w = true -> ∀ af, eg r (rr X (i + 1) false) U af -> R (.ret (.int .i64 (bM X.L 0 i))) af) (h2 : bad = true \/ bl X.L i w = false -> ∀ af, eg r (rr X i true) U af -> R (.ret (.int .i64 0)) af) : ad K 116 [.box r 0, .str w] U R := by
 refine Nz ?_
 have hs := X.small
 refine D5 hr ?_
 refine rH hr w ?_
 simp only [bg, cZ, aj]
 cases hb : (!bad && bl X.L i w) with
 | false =>
   simp only [dk, aK, bu, aj, aR, bW]
   rw [cT hr]
   refine ⟨⟨rfl, rfl, by simp [rr]⟩, al.mk (h2 ?_ _ ⟨GB hr, (gj.refl _ _).set (.inr rfl)⟩)⟩
   cases bad <;> simp_all
 | true =>
   have nw : bad = false := by cases bad <;> simp_all
   subst nw
   have hw : bl X.L i w = true := by simpa using hb
   have aL := cu hw
   simp only [cC, aE, bu, aj, aR, bW]
   rw [eG hr]
   simp only [rr, List.drop, bq, cI]
   refine ⟨bp (by omega) (by omega), ?_⟩
   rw [cT hr]
   refine ⟨⟨rfl, rfl, by simp [rr]⟩, al.mk (h1 rfl hw _ ⟨?_, (gj.refl _ _).set (.inr rfl)⟩)⟩
   rw [bf]; simp [az, rr]
theorem J6 {K' : AV -> St -> Prop} (hr : U.box r = some (rr X i bad)) (k : Nat) (h1 : ∀ t, bad = false -> X.L[i]? = some t -> t.k = k -> K' (.bool true) U) (h2 : bad = true \/ eP X.L i k = false -> K' (.bool false) U) : ad K 174 [.box r 0, .int .u8 k] U (ai K' (aa R)) := by
 refine I8 hr k ?_
 simp only [bg]
 cases hb : (!bad && eP X.L i k) with
 | false => exact h2 (by cases bad <;> simp_all)
 | true =>
   have nw : bad = false := by cases bad <;> simp_all
   have hk : eP X.L i k = true := by subst nw; simpa using hb
   unfold eP at hk
   split at hk
   · rename_i t ht; exact h1 t nw ht (by simpa using hk)
   · cases hk
theorem YZ {t : Tk} {e o : Nat} {x : AV} {l : List AV} {k : AV -> Prop} {j : Int} (hj : j = (i : Nat)) (ht : X.L[i]? = some t) (hd : (jo t).drop o = x :: l) (h : k x) : ar K (aH (some (e, 3)) none X.tv (.int .i64 j)) fun v1 => ar K (ag (some o) v1) fun v2 => ar K (av (some (false, 1)) v2 U) k := by
 subst hj
 have aL := (dP.1 ht).1
 obtain ⟨c, hv, lD⟩ := X.tr.at (sz := 3) (e := e) aL
 obtain ⟨rest, pC⟩ := pO ht
 rw [lD, pC]
 have hlen : o <= (jo t).length := by
  rcases eZ (jo t).length o with h | h
  · rw [List.drop_eq_nil_of_le (by omega)] at hd; cases hd
  · exact h
 refine ⟨by omega, ?_⟩
 show ar K (gP ((jo t ++ rest).drop o)) k
 rw [List.drop_append_of_le_length hlen, hd]
 exact h
theorem GA (hr : U.box r = some (rr X i bad)) (h1 : ∀ t, bad = false -> X.L[i]? = some t -> t.k = 1 -> ∀ af, eg r (rr X (i + 1) false) U af -> R (.ret (.str t.s)) af) (h2 : bad = true \/ eP X.L i 1 = false -> ∀ af, eg r (rr X i true) U af -> R (.ret (.str [])) af) : ad K 115 [.box r 0] U R := by
 refine Ny ?_
 have hs := X.small
 unfold Nx
 refine J6 hr 1 (fun t nw ht hk => ?_) (fun hb => ?_)
 · subst nw
   have aL := (dP.1 ht).1
   simp only [cZ, aj, cC, aE, bu, aR, bW]
   rw [eG hr]
   simp only [rr, List.drop, bq, cI]
   refine ⟨bp (by omega) (by omega), ?_⟩
   rw [cT hr]
   refine ⟨⟨rfl, rfl, by simp [rr]⟩, ?_⟩
   have nJ : (U.set r (.box (az (rr X i false) 1 (aC (.int .i64 ((i : Int) + 1)))))).box r = some (rr X (i + 1) false) := by rw [bf]; simp [az, rr]
   have A : eg r (rr X (i + 1) false) U (U.set r (.box (az (rr X i false) 1 (aC (.int .i64 ((i : Int) + 1)))))) := ⟨nJ, (gj.refl _ _).set (.inr rfl)⟩
   generalize U.set r (.box (az (rr X i false) 1 (aC (.int .i64 ((i : Int) + 1))))) = bI at *
   refine sk (o := 0) nJ rfl ?_
   refine sk (o := 1) nJ rfl ?_
   rw [TJ]
   refine ⟨bp (by omega) (by omega), ?_⟩
   refine YZ (i := i) (by omega) ht rfl ?_
   exact al.mk (h1 t rfl ht hk _ A)
 · simp only [cZ, aj, dk, aK, bu, aR, bW]
   rw [cT hr]
   exact ⟨⟨rfl, rfl, by simp [rr]⟩, al.mk (h2 hb _ ⟨GB hr, (gj.refl _ _).set (.inr rfl)⟩)⟩
theorem Dl {s : aZ} {j : Nat} (h : j < s.length) : pc 0 (s.take (j + 1)) = 10 * pc 0 (s.take j) + ((s[j].toNat : Int) - 48) := by
 have : s.take (j + 1) = s.take j ++ [s[j]] := by rw [qS, jQ h]; rfl
 rw [this]
 unfold pc
 rw [List.foldl_append]
 rfl
theorem KD (hr : U.box r = some (rr X i bad)) (h1 : ∀ t, bad = false -> X.L[i]? = some t -> t.k = 2 -> ∀ af, eg r (rr X (i + 1) false) U af -> R (.ret (.int .i64 (uj t.s))) af) (h2 : bad = true \/ eP X.L i 2 = false -> ∀ af, eg r (rr X i true) U af -> R (.ret (.int .i64 0)) af) : ad K 175 [.box r 0] U R := by
 refine O3 ?_
 have hs := X.small
 unfold O0
 refine J6 hr 2 (fun t nw ht hk => ?_) (fun hb => ?_)
 · subst nw
   have aL := (dP.1 ht).1
   simp only [cZ, aj, cC, aE, bu, aR, bW]
   rw [eG hr]
   simp only [rr, List.drop, bq, cI]
   refine ⟨bp (by omega) (by omega), ?_⟩
   rw [cT hr]
   refine ⟨⟨rfl, rfl, by simp [rr]⟩, ?_⟩
   have nJ : (U.set r (.box (az (rr X i false) 1 (aC (.int .i64 ((i : Int) + 1)))))).box r = some (rr X (i + 1) false) := by rw [bf]; simp [az, rr]
   have A : eg r (rr X (i + 1) false) U (U.set r (.box (az (rr X i false) 1 (aC (.int .i64 ((i : Int) + 1)))))) := ⟨nJ, (gj.refl _ _).set (.inr rfl)⟩
   generalize U.set r (.box (az (rr X i false) 1 (aC (.int .i64 ((i : Int) + 1))))) = bI at *
   refine sk (o := 0) nJ rfl ?_
   refine sk (o := 1) nJ rfl ?_
   rw [TJ]
   refine ⟨bp (by omega) (by omega), ?_⟩
   refine YZ (i := i) (by omega) ht rfl ?_
   have cW := X.ok t (gK ht)
   have cH := CY cW hk
   obtain ⟨b1, b2, b3, b4, b5⟩ := yf cW.1 cH
   have cq := (CV cH).1
   refine ⟨fun m v3 v4 v5 af => ∃ j : Nat, m = t.s.length - j /\ j <= t.s.length /\ v3 = .int .i64 (pc 0 (t.s.take j)) /\ v4 = .str t.s /\ v5 = .int .i64 (j : Nat) /\ af = bI, ⟨_, 0, rfl, by omega, rfl, rfl, rfl, rfl⟩, ?_⟩
   rintro m v3 v4 v5 af ⟨j, rfl, hj, rfl, rfl, rfl, rfl⟩
   simp only [eM, aj, bh, aT]
   refine ⟨fun mr => ?_, fun gk => ?_⟩
   · have mr : j < t.s.length := by omega
     have abK : ∀ k, k <= t.s.length -> 0 <= pc 0 (t.s.take k) /\ pc 0 (t.s.take k) + 1 <= 10 ^ k := fun k => by
      induction k with
      | zero => intro _; simp [pc]
      | succ k ih =>
        intro hk
        obtain ⟨p1, p2⟩ := ih (by omega)
        have qA : k < t.s.length := by omega
        rw [Dl qA]
        have hd : eD t.s[k] = true := by rw [eY] at cq; exact cq _ (qU qA)
        have hc := jW.1 hd
        refine ⟨by omega, ?_⟩
        rw [Int.pow_succ]
        omega
     have h7 : (10 : Int) ^ j <= 10 ^ 7 := by
      have := Nat.pow_le_pow_right (n := 10) (by omega) (show j <= 7 by omega)
      exact_mod_cast this
     obtain ⟨p1, p2⟩ := abK j hj
     have p3 : pc 0 (t.s.take j) <= 10000000 := by omega
     rw [KV]
     refine ⟨bp (by omega) (by omega), ?_⟩
     rw [qv]
     refine ⟨by omega, ?_⟩
     rw [dR, getD_at mr]
     have hd : eD t.s[j] = true := by rw [eY] at cq; exact cq _ (qU mr)
     have hc := jW.1 hd
     have hw : IntKind.u8.wrap ((t.s[j].toNat : Int) - 48) = (t.s[j].toNat : Int) - 48 := by
      show ((t.s[j].toNat : Int) - 48) % 256 = _
      omega
     simp only [jT, Ae, aj, hw, se, wp_cond, cI]
     refine ⟨bp (by omega) (by omega), bp (by omega) (by omega), bp (by omega) (by omega), ?_⟩
     exact ⟨t.s.length - (j + 1), by omega, j + 1, rfl, by omega, by rw [Dl mr], rfl, by simp, rfl⟩
   · have : j = t.s.length := by omega
     subst this
     rw [ql]
     exact al.mk (h1 t rfl ht hk _ A)
 · simp only [cZ, aj, dk, aK, bu, aR, bW]
   rw [cT hr]
   exact ⟨⟨rfl, rfl, by simp [rr]⟩, al.mk (h2 hb _ ⟨GB hr, (gj.refl _ _).set (.inr rfl)⟩)⟩
end
end Go.Rip
namespace Go.Rip
open Go.Proofs Go.RowKit
def gH (U : St) (v : AV) (ns : List Nd) : Prop := ((v = .ak /\ ns = []) \/ ∃ c, v = .vec ns.length c (bJ ns)) \/ ∃ b, v = .ms b 0 ns.length 6 43 /\ U.box b = some (bJ ns)
theorem gH.src {U : St} {v : AV} {ns : List Nd} (h : gH U v ns) : qp U v = some (ns.length, bJ ns) := by
 rcases h with (⟨rfl, rfl⟩ | ⟨c, rfl⟩) | ⟨b, rfl, hb⟩
 · rfl
 · rfl
 · simp only [qp, hb, eR]
   rw [uD (by rw [fj]; omega)]
theorem gH.sO {U af : St} {v : AV} {ns : List Nd} (h : gH U v ns) (e : dr U af) : gH af v ns := by
 rcases h with h | ⟨b, h1, h2⟩
 · exact .inl h
 · exact .inr ⟨b, h1, e.bU h2⟩
theorem gH.cN {U : St} {v : AV} {ns : List Nd} (h : gH U v ns) : v.cN = true /\ aC v = [v] := by
 rcases h with (⟨rfl, rfl⟩ | ⟨c, rfl⟩) | ⟨b, rfl, hb⟩ <;> exact ⟨rfl, rfl⟩
def SM (U : St) (vs : List AV) (nss : List (List Nd)) : Prop := vs.length = nss.length /\ ∀ (i : Nat) (v : AV) (ns : List Nd), vs[i]? = some v -> nss[i]? = some ns -> gH U v ns
section
variable {U : St} {R : cS -> St -> Prop}
theorem Gi {kind : Int} {text : aZ} {n m at_ sz : Int} {kv : AV} {vs : List AV} {nss : List (List Nd)} (pY : vs = [] /\ kv = .ak \/ ∃ c, kv = .vec vs.length c vs) (hk : SM U vs nss) (hl : nss.flatten.length <= 1000000) (pF : vs.length <= 100)
 (h : ∀ b af, U.live b = none -> af.box b = some (bJ (node kind text n m at_ nss.flatten)) -> dr U af -> R (.ret (.ms b 0 (node kind text n m at_ nss.flatten).length 6 43)) af) : ad K 60 [.agg [.int .u8 kind, .str text, .int .i64 n, .int .i64 m, .int .i64 at_, .int .i64 sz], kv] U R := by
 refine R7 ?_
 unfold T9
 rw [jR rfl]
 intro b0 rD
 have m0 : (U.new b0 (.box (aC (.agg [.int .u8 kind, .str text, .int .i64 n, .int .i64 m, .int .i64 at_, .int .i64 sz])))).box b0 = some [.int .u8 kind, .str text, .int .i64 n, .int .i64 m, .int .i64 at_, .int .i64 sz] := aW
 have e0 := cE rD (x := .box (aC (.agg [.int .u8 kind, .str text, .int .i64 n, .int .i64 m, .int .i64 at_, .int .i64 sz])))
 have f0 := rD.1
 generalize U.new b0 (.box (aC (.agg [.int .u8 kind, .str text, .int .i64 n, .int .i64 m, .int .i64 at_, .int .i64 sz]))) = bP at *
 simp only [aR, aj, bW]
 rw [cT m0]
 refine ⟨⟨rfl, rfl, by simp⟩, ?_⟩
 rw [ow bf]
 refine ⟨by simp [az], ?_⟩
 have hag : List.take 6 (List.drop 0 (az [.int .u8 kind, .str text, .int .i64 n, .int .i64 m, .int .i64 at_, .int .i64 sz] 5 (aC (.int .i64 1)))) = [.int .u8 kind, .str text, .int .i64 n, .int .i64 m, .int .i64 at_, .int .i64 1] := by simp [az]
 rw [hag]
 have e1 := e0.set f0 (x := .box (az [.int .u8 kind, .str text, .int .i64 n, .int .i64 m, .int .i64 at_, .int .i64 sz] 5 (aC (.int .i64 1))))
 generalize bP.set b0 (.box (az [.int .u8 kind, .str text, .int .i64 n, .int .i64 m, .int .i64 at_, .int .i64 sz] 5 (aC (.int .i64 1)))) = bI at *
 rw [ud]
 refine ⟨by omega, ?_⟩
 rw [c6 (o := 0) (s := 6) rfl]
 refine ⟨⟨rfl, rfl, by simp [bB]⟩, ?_⟩
 rw [zp]
 refine ⟨rfl, fun b hb => ?_⟩
 have hlen : bD (some false) kv = .val (.int .i64 vs.length) := by
  rcases pY with ⟨rfl, rfl⟩ | ⟨c, rfl⟩ <;> rfl
 refine ⟨fun mm v1 v5 v6 af => ∃ (i b' : Nat), mm = vs.length - i /\ i <= vs.length /\ v1 = kv /\ v5 = .ms b' 0 ((nss.take i).flatten.length + 1) 6 43 /\ v6 = .int .i64 (i : Nat) /\ af.box b' = some ([.int .u8 kind, .str text, .int .i64 n, .int .i64 m, .int .i64 at_, .int .i64 1] ++ bJ (nss.take i).flatten) /\ U.live b' = none /\ dr U af,
  ⟨_, 0, b, rfl, by omega, rfl, by simp, rfl, by simp [bJ, aW, az, bB], e1.fresh hb.1, e1.new hb⟩, ?_⟩
 rintro mm v1 v5 v6 bQ ⟨i, b', rfl, hi, rfl, rfl, rfl, eA, xR, Dt⟩
 have p4 : ∀ k, (nss.take k).flatten.length <= nss.flatten.length := fun k => by
  have : nss.flatten = (nss.take k).flatten ++ (nss.drop k).flatten := by rw [<- List.flatten_append, List.take_append_drop]
  rw [this, eQ]; omega
 simp only [hlen, bh, aj, aT]
 refine ⟨fun aL => ?_, fun gk => ?_⟩
 · have aL : i < vs.length := by omega
   rcases pY with ⟨rfl, _⟩ | ⟨c, rfl⟩
   · simp at aL
   rw [uM]
   refine ⟨by omega, ?_⟩
   have hd : vs.drop ((i : Int).toNat * 1) = vs[i] :: vs.drop (i + 1) := by rw [dR, Nat.mul_one]; exact gX aL
   rw [hd, mR, bq]
   have mr : i < nss.length := by rw [<- hk.1]; exact aL
   have Dy := (hk.2 i vs[i] nss[i] (by simp [aL]) (by simp [mr])).sO Dt
   have nK : (nss.take (i + 1)).flatten = (nss.take i).flatten ++ nss[i] := by
    have : nss.take (i + 1) = nss.take i ++ [nss[i]] := by rw [qS, jQ mr]; rfl
    rw [this, List.flatten_append]
    simp only [List.flatten_cons, List.flatten_nil, mB]
   have h1 := p4 (i + 1)
   rw [nK, eQ] at h1
   refine Cb (sz := 6) (m := nss[i].length) (l2 := bJ nss[i]) eA Dy.src ⟨by rw [fj]; omega, by simp [fj]; omega, by omega⟩ fun b2 hf => ?_
   rw [cI]
   refine ⟨bp (by omega) (by omega), vs.length - (i + 1), by omega, i + 1, b2, rfl, aL, rfl, ?_, by simp, ?_, ?_, ?_⟩
   · rw [nK, eQ]; congr 1; omega
   · rw [aW, nK, oW]
     have : ((nss.take i).flatten.length + 1) * 6 = ([AV.int .u8 kind, .str text, .int .i64 n, .int .i64 m, .int .i64 at_, .int .i64 1] ++ bJ (nss.take i).flatten).length := by simp [fj]; omega
     rw [this, ql, qT]
   · have pD : ((bQ.del b').live b2) = none := hf.1
     by_cases tF : b2 = b'
     · rw [tF]; exact xR
     · rw [jz, if_neg tF] at pD
       exact Dt.fresh pD
   · exact (Dt.del xR).new hf
 · have hi : i = nss.length := by rw [<- hk.1]; omega
   subst hi
   rw [ql] at eA ⊢
   simp only [BK, aj]
   rw [wO]
   refine ⟨⟨by omega, by omega, rfl⟩, ?_⟩
   simp only [aR, aj, bW, show (0 : Int).toNat * 6 = 0 from rfl]
   rw [cT eA]
   refine ⟨⟨rfl, rfl, by simp⟩, ?_⟩
   have e : az ([.int .u8 kind, .str text, .int .i64 n, .int .i64 m, .int .i64 at_, .int .i64 1] ++ bJ nss.flatten) 5 (aC (.int .i64 ((nss.flatten.length + 1 : Nat) : Int))) = bJ (node kind text n m at_ nss.flatten) := by
    simp [az, node, bJ, fO]
   exact al.mk (h b' _ xR (by rw [bf, e]) (Dt.set xR))
end
end Go.Rip
namespace Go.Rip
open Go.Proofs Go.RowKit
theorem YR (x y : Nd) : aq .neq (BT.mk false false false (some [.i, .s, .i, .i, .i, .i])) false (.agg (fO x)) (.agg (fO y)) = .val (.bool (!decide (x = y))) := by
 have : H0 (some [.i, .s, .i, .i, .i, .i]) (fO x) (fO y) = some (decide (x = y)) := by
  cases x; cases y
  simp [H0, fO, nG]
  grind
 simp only [aq, this, tp]
theorem gH.len {U : St} {v : AV} {l : List Nd} (h : gH U v l) : bD (some false) v = .val (.int .i64 l.length) := by
 rcases h with (⟨rfl, rfl⟩ | ⟨c, rfl⟩) | ⟨b, rfl, hb⟩ <;> rfl
theorem gH.nd {U : St} {v : AV} {l : List Nd} {i : Nat} {x : Nd} {k : AV -> Prop} (h : gH U v l) (hx : l[i]? = some x) (hk : k (.agg (fO x))) :
 ar K (aH (some (43, 6)) none v (.int .i64 (i : Nat))) fun p => ar K (av (some (true, 6)) p U) k := by
 have aL := (dP.1 hx).1
 obtain ⟨r, hr⟩ := y9 hx
 rcases h with (⟨rfl, rfl⟩ | ⟨c, rfl⟩) | ⟨b, rfl, hb⟩
 · simp at aL
 · rw [Gv, dR, hr, zd]
   refine ⟨by omega, by simp [fO], ?_⟩
   simpa [fO] using hk
 · rw [EF, BV hb, dR, bW, hr]
   refine ⟨⟨by omega, by omega, rfl⟩, by simp [fO], ?_⟩
   simpa [fO] using hk
theorem Vj {U : St} {v1 v2 : AV} {l1 l2 : List Nd} {R : cS -> St -> Prop} (h1 : gH U v1 l1) (h2 : gH U v2 l2) (Bu : l1.length <= 1000000) (rE : l2.length <= 1000000) (h : R (.ret (.bool (decide (l1 = l2)))) U) : ad K 47 [v1, v2] U R := by
 refine R0 ?_
 unfold TW
 simp only [h1.len, h2.len, aj, cg]
 by_cases hl : l1.length = l2.length
 · have : ((l1.length : Int) = l2.length) := by omega
   simp only [this, cj, cC, aE]
   refine ⟨fun m w1 w2 v5 af => ∃ i : Nat, m = l1.length - i /\ i <= l1.length /\ w1 = v1 /\ w2 = v2 /\ v5 = .int .i64 (i : Nat) /\ af = U /\ ∀ j, j < i -> l1[j]? = l2[j]?, ⟨_, 0, rfl, by omega, rfl, rfl, rfl, rfl, fun j hj => by omega⟩, ?_⟩
   rintro m w1 w2 v5 af ⟨i, rfl, hi, rfl, rfl, rfl, rfl, heq⟩
   simp only [h1.len, bh, aj, aT]
   refine ⟨fun aL => ?_, fun gk => ?_⟩
   · have aL : i < l1.length := by omega
     obtain ⟨x, hx⟩ : ∃ x, l1[i]? = some x := ⟨l1[i], by simp [aL]⟩
     obtain ⟨y, hy⟩ : ∃ y, l2[i]? = some y := ⟨l2[i], by simp⟩
     refine h1.nd hx ?_
     refine h2.nd hy ?_
     rw [YR]
     simp only [aJ]
     by_cases zI : x = y
     · simp only [zI, cj, cC, aE, cI]
       refine ⟨bp (by omega) (by omega), l1.length - (i + 1), by omega, i + 1, rfl, by omega, rfl, rfl, by simp, rfl, fun j hj => ?_⟩
       rcases eZ j i with h | h
       · exact heq j h
       · have : j = i := by omega
         subst this; rw [hx, hy, zI]
     · simp only [zI, cM, dk, aK]
       refine al.eq h ?_
       have : l1 ≠ l2 := fun e => zI (by rw [e, hy] at hx; cases hx; rfl)
       simp [this]
   · refine al.eq h ?_
     have : l1 = l2 := List.ext_getElem? fun j => by
      rcases eZ j i with h | h
      · exact heq j h
      · rw [l9 (by omega), l9 (by omega)]
     simp [this]
 · have : ¬ ((l1.length : Int) = l2.length) := by omega
   simp only [this, cM, dk, aK]
   refine al.eq h ?_
   have : l1 ≠ l2 := fun e => hl (by rw [e])
   simp [this]
end Go.Rip
