/- Lemmas for the proof: no conditions. -/
import Derived.Test.YtnfpmiiopiinbaaGreatDoorRipZz
import Derived.Test.YtnfpmiiopiinbaaGreatDoorRipYb
import Derived.Test.YtnfpmiiopiinbaaGreatDoorRipAw
import Derived.Test.YtnfpmiiopiinbaaGreatDoorRipX
set_option linter.unusedVariables false
set_option linter.unusedSimpArgs false
set_option linter.loopingSimpArgs false
namespace Go.Rip
open Go.Proofs Go.RowKit
def ph (l : List Nd) (k : Nat) : bf := (l[k]?.map Nd.text).getD []
def kh (l : List Nd) (s : bf) (ks : List Nat) : Option Nat := ks.find? fun k => decide (ph l k = s)
noncomputable def lk (l : List Nd) (s : bf) : Nat × Int := if ey l ≠ 0 then (0, ey l) else match kh l s (jH l 0) with | some k => (k, 0) | none => (0, 7)
theorem nx {l : List Nd} : j9 l 0 = ey l := by
 by_cases hc : ey l = 0
 · have h9 : ¬ 900 < l.length := fun h => by unfold ey at hc; rw [if_pos h] at hc; cases hc
   have : ∃ t : Tre, l = t.flat /\ t.kind = 1 /\ t.ok = true := Classical.not_not.1 fun h => by rw [tn h9 h] at hc; cases hc
   obtain ⟨t, rfl, h1, h2⟩ := this
   have := t.cR
   rw [hc, zH hc (by omega)]
 · exact qi hc
theorem rG {l : List Nd} {k : Nat} {x : Nd} (h : l[k]? = some x) : ph l k = x.text := by unfold ph; rw [h]; rfl
theorem AM {l : List Nd} {s : bf} {ks r : List Nat} {k : Nat} (h : ∀ j ∈ ks, ph l j ≠ s) (hk : ph l k = s) : kh l s (ks ++ k :: r) = some k := by
 unfold kh
 rw [List.find?_append, List.find?_eq_none.2 (fun j hj => by simpa using h j hj)]
 simp [hk]
theorem AL {l : List Nd} {s : bf} {ks : List Nat} (h : ∀ j ∈ ks, ph l j ≠ s) : kh l s ks = none := by
 unfold kh
 exact List.find?_eq_none.2 fun j hj => by simpa using h j hj
theorem zm {l : List Nd} : ∀ {ts : List Tre} {p : Nat}, iY l p ts -> ∀ i ∈ bI p ts, ∃ s, dW l i s
 | [], _, _, i, hi => by simp [bI] at hi
 | t :: ts, p, h, i, hi => by
   simp only [bI, ep] at hi
   rcases hi with rfl | hi
   · exact ⟨t, h.head⟩
   · exact zm h.tail i hi
theorem FT {l : List Nd} {n : Nat} {s : Tre} (h : dW l n s) : ∀ j ∈ jH l n, j < l.length := by
 intro j hj
 rw [Bk h] at hj
 obtain ⟨s', dA⟩ := zm h.kids j hj
 have := dA.le
 have := s'.cR
 omega
section
variable {v : AV} {l : List Nd}
theorem Ok {U : St} {R : cB -> St -> Prop} {t : Tre} (hv : Sl v t.flat) (hl : t.flat.length <= 10000) (s : bf)
 (h : ∀ ae, R (.ret (.int .i64 (match kh t.flat s (jH t.flat 0) with | some k => (k : Int) | none => -1))) ae) : af K 86 [.agg [v], .str s] U R := by
 refine OR ?_
 unfold QK
 rw [eA rfl]
 intro b1 dC
 have m1 : (U.new b1 (.box (ax (.agg [v])))).box b1 = some [v] := aL
 generalize U.new b1 _ = aF at *
 refine oS (eG m1 rfl ?_)
 have AU := Bk (dW.whole t)
 refine yV (i := 0) (hv.eO _) (dW.whole t) (by omega) fun bJ v5 g5 => ?_
 rw [bu]
 have m1 := g5.ex.bo m1
 rw [<- jd 1 t.kids] at g5
 rw [<- AU] at g5
 have abq : (jH t.flat 0).length <= t.flat.length := tL _ _ _ _
 have UP := FT (dW.whole t)
 generalize gL : jH t.flat 0 = ks at *
 have UK := g5.sl
 refine ⟨fun m v1 v2 ZL v6 ae => ∃ i : Nat, m = ks.length - i /\ i <= ks.length /\ v1 = .str s /\ v2 = .box b1 0 /\ ZL = v5 /\ v6 = .int .i64 (i : Nat) /\ ae = bJ /\ ∀ j ∈ ks.take i, ph t.flat j ≠ s, ⟨_, 0, rfl, by omega, rfl, rfl, rfl, rfl, rfl, by simp⟩, ?_⟩
 rintro m v1 v2 ZL v6 ae ⟨i, rfl, hi, rfl, rfl, rfl, rfl, rfl, eV⟩
 rw [UK.len, ai, bj, ai]
 refine dj (fun aJ => ?_) fun fZ => ?_
 · have aJ : i < ks.length := by omega
   obtain ⟨k, hk⟩ : ∃ k, ks[i] = k := ⟨_, rfl⟩
   have hx : ks[i]? = some k := by simp [aJ, hk]
   have aag : k < t.flat.length := UP k (fi hx)
   obtain ⟨y, hy⟩ : ∃ y, t.flat[k]? = some y := ⟨t.flat[k], by simp [aag]⟩
   obtain ⟨c, hc5, kJ⟩ := UK.at (sz := 1) (e := 3) aJ
   obtain ⟨r, hr⟩ := qB hx
   rw [Nat.mul_one, hr] at kJ
   refine kz (dP m1 rfl ?_)
   rw [kJ, gG, aw, oa, fB]
   refine ⟨⟨by omega, by omega⟩, ?_⟩
   refine DJ (hv.eO _) hy (show (cT y)[1]? = some (.str y.text) from rfl) ?_
   rw [gb, aw]
   refine dj (fun he => ?_) fun bQ => ?_
   · refine ⟨⟨by omega, by omega⟩, ?_⟩
     rw [ai, mR, bG]
     refine aj.mk ?_
     have hf : kh t.flat s ks = some k := by
      have e : ks = ks.take i ++ k :: ks.drop (i + 1) := by rw [<- hk, <- fN aJ, List.take_append_drop]
      have := AM (r := ks.drop (i + 1)) eV ((rG hy).trans he)
      rwa [<- e] at this
     have := h ae
     rw [hf] at this
     exact this
   · rw [cq]
     refine ⟨aZ (by omega) (by omega), ks.length - (i + 1), by omega, i + 1, rfl, by omega, rfl, rfl, rfl, by simp, rfl, fun j hj => ?_⟩
     rw [od, hx, fC] at hj
     rcases hj with hj | hj
     · exact eV j hj
     · simp only [Option.toList, lg] at hj
       rw [hj, rG hy]; exact bQ
 · refine aj.mk ?_
   have bw : kh t.flat s ks = none := AL fun j hj => eV j (by rw [pt (by omega)]; exact hj)
   have := h ae
   rw [bw] at this
   exact this
theorem Od {U : St} {R : cB -> St -> Prop} {t : Tre} {b3 : Nat} {s : bf} (hv : Sl v t.flat) (hl : t.flat.length <= 10000) (m3 : U.box b3 = some [.str s])
 (h : ∀ ae, R (.ret (.aQ [.int .i64 (match kh t.flat s (jH t.flat 0) with | some k => (k : Int) | none => 0), .int .i64 (match kh t.flat s (jH t.flat 0) with | some k => 0 | none => 7)])) ae) : af K 83 [.agg [v], .box b3 0] U R := by
 refine OQ ?_
 unfold QJ
 rw [eA rfl]
 intro b2 gK
 have m2 : (U.new b2 (.box (ax (.agg [v])))).box b2 = some [v] := aL
 have m3 := (bm gK (x := .box (ax (.agg [v])))).bo m3
 generalize U.new b2 _ = aF at *
 rw [cx]
 intro b4 jk
 have m4 : (aF.new b4 (.box [.int .i64 0])).box b4 = some [.int .i64 0] := aL
 have Dx := jk.bZ m2
 have Bq := jk.bZ m3
 have m2 := (bm jk (x := .box [.int .i64 0])).bo m2
 have m3 := (bm jk (x := .box [.int .i64 0])).bo m3
 generalize aF.new b4 _ = bJ at *
 rw [cx]
 intro b5 pc
 have m5 : (bJ.new b5 (.box [.int .i64 0])).box b5 = some [.int .i64 0] := aL
 have n25 := pc.bZ m2
 have n35 := pc.bZ m3
 have Br := pc.bZ m4
 have m2 := (bm pc (x := .box [.int .i64 0])).bo m2
 have m3 := (bm pc (x := .box [.int .i64 0])).bo m3
 have m4 := (bm pc (x := .box [.int .i64 0])).bo m4
 generalize bJ.new b5 _ = bX at *
 refine gH m2 ?_
 have hs := dW.whole t
 obtain ⟨x, hx, _, FM, _⟩ := hs.lD
 have UP := FT hs
 refine xM (n := 0) hv.s hx (aZ (by omega) (by omega)) fun bn be bt cE d1 d2 d3 f1 f2 f3 q1 q2 q3 e3 => ?_
 rw [bu]
 have m2 := e3.bo m2
 have m3 := e3.bo m3
 have n4n : b4 ≠ bn := fun e => cK m4 (e ▸ f1)
 have n4e : b4 ≠ be := fun e => cK m4 (e ▸ f2)
 have n4t : b4 ≠ bt := fun e => cK m4 (e ▸ f3)
 have n5n : b5 ≠ bn := fun e => cK m5 (e ▸ f1)
 have n5e : b5 ≠ be := fun e => cK m5 (e ▸ f2)
 have n5t : b5 ≠ bt := fun e => cK m5 (e ▸ f3)
 have m4 := e3.bo m4
 have m5 := e3.bo m5
 have PH : (((0 : Nat) : Int) + x.size) <= t.flat.length := by omega
 have AU : jH t.flat 0 = fA t.flat (((0 : Nat) : Int) + x.size) t.flat.length (0 + 1) := by
  unfold jH; rw [BD hx, show (x.size.toNat : Int) = x.size by omega]
 refine ue (n := 0) (en := ((0 : Nat) : Int) + x.size)
  (fun ks ae => (ae.box bn = some [.int .i64 (0 : Nat)] /\ ae.box be = some [.int .i64 (((0 : Nat) : Int) + x.size)] /\ ae.box bt = some [v]) /\ (ae.box b2 = some [v] /\ ae.box b3 = some [.str s]) /\ (ae.box b4 = some [.int .i64 0] /\ ae.box b5 = some [.int .i64 0]) /\ ∀ j ∈ ks, ph t.flat j ≠ s)
  (fun ae => ∃ k, kh t.flat s (jH t.flat 0) = some k /\ ae.box b4 = some [.int .i64 (k : Nat)] /\ ae.box b5 = some [.int .i64 0]) hv.s t.cR (by omega) PH
  (fun ks ae hI => hI.1) (fun ks ae o L L' hI ho => ?_) (fun ks ae o L hI ho => ?_) (fun ae o L L' hJ ho => ?_) (fun ks eO y ae o L1 q hI hy aJ oD Y8 sG qx hL UY U6 => ?_) (fun ks ae o L gL hI hL => ?_) (fun ae o L hJ hL => ?_) ⟨⟨q1, q2, q3⟩, ⟨m2, m3⟩, ⟨m4, m5⟩, by simp⟩
 · have k : ∀ {b y}, ae.box b = some y -> (ae.set o (.loop L')).box b = some y := fun h => by rw [aN (bO h ho)]; exact h
   obtain ⟨⟨h1, h2, h3⟩, ⟨h4, h5⟩, ⟨h6, h7⟩, h8⟩ := hI
   exact ⟨⟨k h1, k h2, k h3⟩, ⟨k h4, k h5⟩, ⟨k h6, k h7⟩, h8⟩
 · have e := bm ho (x := .loop L)
   obtain ⟨⟨h1, h2, h3⟩, ⟨h4, h5⟩, ⟨h6, h7⟩, h8⟩ := hI
   exact ⟨⟨e.bo h1, e.bo h2, e.bo h3⟩, ⟨e.bo h4, e.bo h5⟩, ⟨e.bo h6, e.bo h7⟩, h8⟩
 · have k : ∀ {b y}, ae.box b = some y -> (ae.set o (.loop L')).box b = some y := fun h => by rw [aN (bO h ho)]; exact h
   obtain ⟨j, h1, h2, h3⟩ := hJ
   exact ⟨j, h1, k h2, k h3⟩
 · obtain ⟨⟨h1, h2, h3⟩, ⟨h4, h5⟩, ⟨h6, h7⟩, h8⟩ := hI
   refine kz (kz (dP h4 rfl ?_))
   refine DJ (hv.eO _) hy (show (cT y)[1]? = some (.str y.text) from rfl) ?_
   refine dP h5 rfl ?_
   rw [gb, aw]
   refine dj (fun he => ?_) fun bQ => ?_
   · rw [cA h6]
     refine ⟨⟨rfl, rfl, by simp⟩, ?_⟩
     rw [cA (show (ae.set b4 _).box b5 = some [.int .i64 0] by rw [aN Br.symm]; exact h7)]
     refine ⟨⟨rfl, rfl, by simp⟩, ?_⟩
     refine U6 _ ⟨eO, ?_, ?_, ?_⟩ ?_
     · obtain ⟨r, hr⟩ := qx
       rw [AU, hr]
       exact AM h8 ((rG hy).trans he)
     · rw [aN Br, aS]; rfl
     · rw [aS]; rfl
     · have PD : (ae.set b4 (.box (aA [.int .i64 0] 0 (ax (.int .i64 (eO : Nat)))))).box b5 = some [.int .i64 0] := by rw [aN Br.symm]; exact h7
       have yD : (ae.set b4 (.box (aA [.int .i64 0] 0 (ax (.int .i64 (eO : Nat)))))).loop o = some L1 := by
        rw [eR]; exact hL
        rw [ez, if_neg (bO h6 hL).symm]
       rw [eR]; exact yD
       rw [ez, if_neg (bO PD yD).symm]
   · have dG := GM.2.2 eO y hy
     refine UY _ ⟨⟨h1, h2, h3⟩, ⟨h4, h5⟩, ⟨h6, h7⟩, fun j hj => ?_⟩ (by omega) hL
     rw [fC] at hj
     rcases hj with hj | hj
     · exact h8 j hj
     · rw [lg] at hj
       rw [hj, rG hy]; exact bQ
 · obtain ⟨⟨h1, h2, h3⟩, ⟨h4, h5⟩, ⟨h6, h7⟩, h8⟩ := hI
   have h6 : (ae.del o).box b4 = some [.int .i64 0] := by rw [fI (bO h6 hL)]; exact h6
   have h7 : (ae.del o).box b5 = some [.int .i64 0] := by rw [fI (bO h7 hL)]; exact h7
   generalize ae.del o = cW at *
   rw [cA h6]
   refine ⟨⟨rfl, rfl, by simp⟩, ?_⟩
   rw [cA (show (cW.set b4 _).box b5 = some [.int .i64 0] by rw [aN Br.symm]; exact h7)]
   refine ⟨⟨rfl, rfl, by simp⟩, ?_⟩
   rw [ud (show ((cW.set b4 (.box (aA [.int .i64 0] 0 (ax (.int .i64 0))))).set b5 (.box (aA [.int .i64 0] 0 (ax (.int .i64 7))))).box b4 = some [.int .i64 0] by rw [aN Br, aS]; rfl) rfl]
   rw [ud aS rfl]
   refine aj.mk ?_
   have := h ((cW.set b4 (.box (aA [.int .i64 0] 0 (ax (.int .i64 0))))).set b5 (.box (aA [.int .i64 0] 0 (ax (.int .i64 7)))))
   rw [AU, <- gL, AL h8] at this
   exact this
 · obtain ⟨k, hf, h6, h7⟩ := hJ
   have h6 : (ae.del o).box b4 = some [.int .i64 (k : Nat)] := by rw [fI (bO h6 hL)]; exact h6
   have h7 : (ae.del o).box b5 = some [.int .i64 0] := by rw [fI (bO h7 hL)]; exact h7
   generalize ae.del o = cW at *
   rw [ud h6 rfl, ud h7 rfl]
   refine aj.mk ?_
   have := h cW
   rw [hf] at this
   exact this
theorem Iq (hv : Sl v l) (hl : l.length <= 10000) (iy : ∀ x ∈ l, x.text.length <= 3000) (s : bf) : Pure K 37 [.agg [v], .str s] (.aQ [.int .i64 (lk l s).1, .int .i64 (lk l s).2]) := by
 refine Pure.of (by simp [bU, hv.cl, show closed (.str s) = true from rfl]) rfl (fun U => rfl) fun R hR => ?_
 refine Ow ?_
 unfold Qn
 rw [eA rfl]
 intro b1 dC
 have m1 : ((bD ⟨.e, 0⟩).new b1 (.box (ax (.agg [v])))).box b1 = some [v] := aL
 generalize (bD _).new b1 _ = aF at *
 rw [eA rfl]
 intro b2 gK
 have m2 : (aF.new b2 (.box (ax (.str s)))).box b2 = some [.str s] := aL
 have m1 := (bm gK (x := .box (ax (.str s)))).bo m1
 generalize aF.new b2 _ = bJ at *
 refine gH m1 ?_
 have fin : ∀ (x e : Int) (ae : St), ((lk l s).1 : Int) = x -> (lk l s).2 = e -> au (fun v9 U => (bg v9 0).wp K U (fun v10 U => (bg v9 1).wp K U (fun v11 U => aj R (AV.aQ [v10, v11]) U) (aa R)) (aa R)) (aa R) (.ret (.aQ [.int .i64 x, .int .i64 e])) ae := by
  intro x e ae hx he
  subst hx he
  simp only [bu, bR, List.drop, bG]
  exact aj.mk (hR _)
 refine We (fs := []) (cs := [.box b2 0]) hv hl iy (by kernel_rfl) (fun ha bX e2 => ?_) (fun ha bX e2 => ?_)
 · rw [nx] at ha ⊢
   have hu : lk l s = (0, ey l) := by unfold lk; rw [if_pos ha]
   exact fin _ _ _ (by rw [hu]; rfl) (by rw [hu])
 have m2 := e2.bo m2
 show af K 83 [.agg [v], .box b2 0] bX _
 have hc : ¬ ey l ≠ 0 := by rw [nx] at ha; simp [ha]
 obtain ⟨n, t, s', hn, rfl, h1, h2, h3, hs⟩ := qX ha
 refine Od hv hl m2 fun cE => ?_
 have hu : lk t.flat s = (match kh t.flat s (jH t.flat 0) with | some k => (k, 0) | none => (0, 7)) := by unfold lk; rw [if_neg hc]
 cases hf : kh t.flat s (jH t.flat 0) with
 | some k =>
   rw [hf] at hu
   exact ⟨_, _, rfl, fun h => absurd rfl h, fun _ => fin _ _ _ (by rw [hu]) (by rw [hu])⟩
 | none =>
   rw [hf] at hu
   exact ⟨_, _, rfl, fun _ => fin _ _ _ (by rw [hu]; rfl) (by rw [hu]), fun h => by cases h⟩
theorem HB (hv : Sl v l) (hl : l.length <= 10000) (iy : ∀ x ∈ l, x.text.length <= 3000) (s : bf) : Pure K 39 [.agg [v], .str s] (.aQ [.int .i64 (lk l s).1, .int .i64 (lk l s).2]) := by
 refine Pure.of (by simp [bU, hv.cl, show closed (.str s) = true from rfl]) rfl (fun U => rfl) fun R hR => ?_
 refine Ox ?_
 unfold Qo
 rw [eA rfl]
 intro b1 dC
 have m1 : ((bD ⟨.e, 0⟩).new b1 (.box (ax (.agg [v])))).box b1 = some [v] := aL
 generalize (bD _).new b1 _ = aF at *
 refine gH m1 ?_
 refine Fl (hv.eO _) (by omega) (fun x hx => by have := iy x hx; omega) fun bJ e1 => ?_
 have m1 := e1.bo m1
 simp only [bu, ct, ai]
 by_cases hc : ey l = 0
 rotate_left
 · have hu : lk l s = (0, ey l) := by unfold lk; rw [if_pos hc]
   simp only [hc, cm, da]
   refine cG (aj.mk ?_)
   rw [hu] at hR; exact hR _
 simp only [hc, bS, bV]
 refine du (gH m1 ?_)
 have ha : j9 l 0 = 0 := by rw [nx, hc]
 obtain ⟨n, t, s', hn, rfl, h1, h2, h3, hs⟩ := qX ha
 have hu : lk t.flat s = (match kh t.flat s (jH t.flat 0) with | some k => (k, 0) | none => (0, 7)) := by unfold lk; rw [if_neg (by simp [hc])]
 refine Ok hv hl s fun bX => ?_
 rw [bu]
 refine qT ?_
 cases hf : kh t.flat s (jH t.flat 0) with
 | some k =>
   rw [hf] at hu
   refine dj (fun _ => aj.mk ?_) fun h => absurd (by exact Int.natCast_nonneg k) h
   rw [hu] at hR; exact hR _
 | none =>
   rw [hf] at hu
   refine dj (fun h => absurd h (by decide)) fun _ => aj.mk ?_
   rw [hu] at hR; exact hR _
end
end Go.Rip
namespace Go.Rip
open Go.Proofs Go.RowKit
def yj (x : Nd) : Nd := { x with at_ := 0 }
def fl (l : List Nd) : List Nd := l.map yj
noncomputable def fH (l : List Nd) : List Nd × Int := if ey l ≠ 0 then ([], ey l) else (fl l, 0)
theorem HL (A B cs : List AV) (o : Nat) : aA (A ++ B) (A.length + o) cs = A ++ aA B o cs := by
 simp only [aA, List.take_append, List.drop_append, pw]
 rw [pt (by omega), List.drop_of_length_le (by omega), show A.length + o - A.length = o by omega, show A.length + o + cs.length - A.length = o + cs.length by omega, jA]
theorem DW {l : List Nd} {i o : Nat} {x y : Nd} {c : AV} (hx : l[i]? = some x) (hc : ∀ C : List AV, aA (cT x ++ C) o [c] = cT y ++ C) : aA (cw l) (i * 6 + o) [c] = cw (l.set i y) := by
 have aJ := (dm.1 hx).1
 have FN := (dm.1 hx).2
 have e : l = l.take i ++ x :: l.drop (i + 1) := by rw [<- FN, <- fN aJ, List.take_append_drop]
 have hl : (l.take i).length = i := by simp; omega
 have e2 : l.set i y = l.take i ++ y :: l.drop (i + 1) := by
  rw [List.set_eq_take_append_cons_drop, if_pos aJ]
 have e3 : cw l = cw (l.take i) ++ (cT x ++ cw (l.drop (i + 1))) := by
  conv => lhs; rw [e]
  simp [cw]
 rw [e2, e3, show i * 6 + o = (cw (l.take i)).length + o by rw [jv, hl]; omega, HL, hc]
 simp [cw]
theorem AA {l : List Nd} {i : Nat} {x : Nd} (hx : l[i]? = some x) : ((fl (l.take i) ++ l.drop i).set i (yj x)) = fl (l.take (i + 1)) ++ l.drop (i + 1) := by
 have aJ := (dm.1 hx).1
 have FN := (dm.1 hx).2
 have hl : (fl (l.take i)).length = i := by simp [fl]; omega
 rw [List.set_append_right _ _ (by omega), hl, Nat.sub_self, fN aJ, List.set_cons_zero, od, hx]
 simp [fl]
theorem Fi {l : List Nd} {i : Nat} {x : Nd} (hx : l[i]? = some x) : (fl (l.take i) ++ l.drop i)[i]? = some x := by
 have aJ := (dm.1 hx).1
 have hl : (fl (l.take i)).length = i := by simp [fl]; omega
 rw [List.getElem?_append_right (by omega), hl, Nat.sub_self, List.getElem?_drop]
 simpa using hx
theorem Cp (l : List Nd) (i : Nat) : (fl (l.take i) ++ l.drop i).length = l.length := by simp [fl]; omega
section
variable {v : AV} {l : List Nd}
theorem Rq {U : St} {R : cB -> St -> Prop} (hv : Sl v l) (bQ : l ≠ []) (hl : l.length <= 100000) (h : ∀ ae b, cJ U ae -> U.live b = none -> ae.box b = some (cw l) -> R (.ret (.agg [.ms b 0 l.length 6 43])) ae) : af K 26 [.agg [v]] U R := by
 refine DU ?_
 unfold HG
 rw [eA rfl]
 intro b1 dC
 have m1 : (U.new b1 (.box (ax (.agg [v])))).box b1 = some [v] := aL
 have e1 := bm dC (x := .box (ax (.agg [v])))
 generalize U.new b1 _ = aF at *
 rw [cx]
 intro b2 gK
 have m2 : (aF.new b2 (.box [AV.al])).box b2 = some [.al] := aL
 have m1 := (bm gK (x := .box [AV.al])).bo m1
 have f2 := e1.fresh gK.1
 have e2 := e1.new gK (x := .box [AV.al])
 generalize aF.new b2 (.box [AV.al]) = bJ at *
 refine oS (eG m1 rfl ?_)
 refine MV (hv.eO _).src (jv l ▸ by omega) (by omega) (fun h0 => absurd (qL.1 h0) bQ) (fun h1 _ b hb => ?_) (fun _ h => by cases h)
 have hn := hb.bZ m2
 refine nP [.ms b 0 l.length 6 43] rfl ?_
 rw [cA (show (bJ.new b (.box (cw l))).box b2 = some _ by rw [lX hn]; exact m2)]
 refine ⟨⟨rfl, rfl, by simp⟩, ?_⟩
 rw [lq aS]
 refine ⟨by simp [aA], aj.mk (h _ b ((e2.new hb).set f2) (e2.fresh hb.1) ?_)⟩
 rw [aN hn.symm, aL]
theorem Gk {U : St} {b i : Nat} {L : List Nd} {x : Nd} {K' : AV -> St -> Prop} {Kp : AV -> St -> Prop} {n : Nat} (hb : U.box b = some (cw L)) (hx : L[i]? = some x) (hn : n = L.length) (h : K' (.aQ []) (U.set b (.box (cw (L.set i (yj x)))))) :
 (aG (some (43, 6)) none (.ms b 0 n 6 43) (.int .i64 (i : Nat))).wp K U (fun p U => (ag (some 4) p).wp K U (fun q U => (aM (some (false, 1)) q (.int .i64 0) U).wp K U K' Kp) Kp) Kp := by
 have aJ := (dm.1 hx).1
 rw [wN, ej, ck]
 refine ⟨⟨by omega, by omega, rfl⟩, ?_⟩
 refine oS ?_
 rw [cA hb]
 refine ⟨⟨rfl, rfl, by rw [jv]; omega⟩, ?_⟩
 rw [show ax (AV.int .i64 0) = [.int .i64 0] from rfl, DW (y := yj x) hx (fun C => by simp [aA, cT, yj])]
 exact h
theorem Wf {U : St} {R : cB -> St -> Prop} {p : Int} {g : FuncId} {fs cs : List AV} (hv : Sl v l) (hl : l.length <= 10000) (iy : ∀ x ∈ l, x.text.length <= 3000) (hg : dB K.P g = true)
 (h0 : j9 l p ≠ 0 -> ∀ ae, cJ U ae -> R (.ret (.aQ [.agg [.al], .int .i64 (j9 l p)])) ae)
 (h1 : j9 l p = 0 -> ∀ ae b6, cJ U ae -> U.live b6 = none -> ae.box b6 = some [.al] -> af K g (fs ++ [.agg [v]] ++ cs) ae fun r τ => ∃ x e, r = .ret (.aQ [.agg [x], .int .i64 e]) /\ x.cS = true /\ ax x = [x] /\ τ.box b6 = some [.al] /\
   (e ≠ 0 -> ∀ jb, (∀ b y, b ≠ b6 -> τ.box b = some y -> jb.box b = some y) -> R (.ret (.aQ [.agg [.al], .int .i64 e])) jb) /\ (e = 0 -> ∀ z1 z2, R (.ret (.aQ [.agg [x], .int .i64 0])) ((τ.set b6 (.box z1)).set b6 (.box z2)))) : af K 87 [.agg [v], .int .i64 p, .func (.func g) fs cs] U R := by
 refine OS ?_
 unfold QL
 rw [eA rfl]
 intro b1 dC
 have m1 : (U.new b1 (.box (ax (.agg [v])))).box b1 = some [v] := aL
 have e1 := bm dC (x := .box (ax (.agg [v])))
 generalize U.new b1 _ = aF at *
 rw [cx]
 intro b6 ou
 have m6 : (aF.new b6 (.box [AV.al])).box b6 = some [.al] := aL
 have m1 := (bm ou (x := .box [AV.al])).bo m1
 have f6 := e1.fresh ou.1
 have e6 := e1.new ou (x := .box [AV.al])
 generalize aF.new b6 _ = bJ at *
 have bad : ∀ e : Int, e = j9 l p -> j9 l p ≠ 0 -> (aq (some (true, 1)) (.box b6 0) bJ).wp K bJ (fun bP U => (aM (some (true, 1)) (.box b6 0) bP U).wp K U (fun _ U => bl (some (true, 1)) (.box b6 0) U fun r0 => aj R (AV.aQ [r0, .int .i64 e]) U) (aa R)) (aa R) := by
  intro e he hn
  subst he
  refine gH m6 ?_
  rw [cA m6]
  refine ⟨⟨rfl, rfl, by simp⟩, ?_⟩
  rw [lq aS]
  exact ⟨by simp [aA], aj.mk (h0 hn _ (e6.set f6))⟩
 refine gH m1 ((yn hv.s hv.c hl iy).go ?_)
 rw [ct, ai]
 by_cases hc : ey l = 0
 rotate_left
 · simp only [hc, cm, da]
   exact cG (bad _ (qi hc).symm (by rw [qi hc]; exact hc))
 simp only [hc, bS, bV]
 refine du (oS (eG m1 rfl ?_))
 rw [hv.s.len, ai, fx, er, wp_cond, ai]
 refine ⟨aZ (by omega) (by omega), Ej ?_⟩
 simp only [cU, ai]
 by_cases hp : 0 <= p /\ p <= (l.length : Int) - 1
 rotate_left
 · simp only [hp, cm, da]
   have := Cm hc hp
   exact cG (bad 3 this.symm (by rw [this]; decide))
 simp only [hp, and_self, bS, bV]
 refine du (gH m1 (nP [v] rfl ?_))
 rw [M0 hg]
 refine (h1 (zH hc hp) bJ b6 e6 f6 m6).mono fun r τ hr => ?_
 obtain ⟨x, e, rfl, hx1, P4, m6, h2, h3⟩ := hr
 simp only [bu, bR, List.drop, bG]
 rw [cA m6]
 refine ⟨⟨rfl, rfl, by simp⟩, ?_⟩
 have Bp : (τ.set b6 (.box (aA [AV.al] 0 (ax (.agg [x]))))).box b6 = some [x] := by rw [aS]; rfl
 rw [ct, ai]
 by_cases he : e = 0
 · simp only [he, bS, bV]
   refine du (gH Bp ?_)
   rw [cA Bp]
   refine ⟨⟨rfl, rfl, by simp⟩, ?_⟩
   rw [lq aS]
   refine ⟨by simp [aA], aj.mk ?_⟩
   exact h3 he _ _
 · simp only [he, cm, da]
   refine cG ?_
   rw [cx]
   intro b8 nT
   have m8 : ((τ.set b6 (.box (aA [AV.al] 0 (ax (.agg [x]))))).new b8 (.box [AV.al])).box b8 = some [.al] := aL
   have aaF := (bm nT (x := .box [AV.al])).bo Bp
   refine gH m8 ?_
   rw [cA aaF]
   refine ⟨⟨rfl, rfl, by simp⟩, ?_⟩
   rw [lq aS]
   refine ⟨by simp [aA], aj.mk (h2 he _ fun b y hb hy => ?_)⟩
   rw [aN hb]
   refine (bm nT (x := .box [AV.al])).bo ?_
   rw [aN hb]; exact hy
end
end Go.Rip
namespace Go.Rip
open Go.Proofs Go.RowKit
section
variable {v : AV} {l : List Nd}
theorem Ob {U : St} {R : cB -> St -> Prop} (hv : Sl v l) (bQ : l ≠ []) (hl : l.length <= 10000) (h : ∀ ae b, cJ U ae -> U.live b = none -> ae.box b = some (cw (fl l)) -> R (.ret (.aQ [.agg [.ms b 0 l.length 6 43], .int .i64 0])) ae) : af K 88 [.agg [v]] U R := by
 refine OT ?_
 unfold QM
 rw [eA rfl]
 intro b1 dC
 have m1 : (U.new b1 (.box (ax (.agg [v])))).box b1 = some [v] := aL
 have e1 := bm dC (x := .box (ax (.agg [v])))
 generalize U.new b1 _ = aF at *
 rw [cx]
 intro b2 gK
 have m2 : (aF.new b2 (.box [AV.al])).box b2 = some [.al] := aL
 have m1 := (bm gK (x := .box [AV.al])).bo m1
 have f2 := e1.fresh gK.1
 have e2 := e1.new gK (x := .box [AV.al])
 generalize aF.new b2 (.box [AV.al]) = bJ at *
 refine oS (oS (eG m1 rfl ?_))
 obtain ⟨c, rfl⟩ : ∃ c, v = .vec l.length c (cw l) := by
  rcases hv.s with ⟨h0, _, _⟩ | ⟨c, hc⟩
  · exact absurd (qL.1 h0) bQ
  · exact ⟨c, hc⟩
 refine Nk bQ (by omega) fun bX b e3 fb mb => ?_
 rw [bu]
 have Dy : b2 ≠ b := fun e => cK m2 (e ▸ fb)
 have m2 := e3.bo m2
 have Yx := e2.fresh fb
 have e3 := e2.trans e3
 refine nP [.ms b 0 l.length 6 43] rfl ?_
 rw [cx]
 intro b4 jk
 have m4 : (bX.new b4 (.box [AV.al])).box b4 = some [.al] := aL
 have ZA := jk.bZ mb
 have n42 := jk.bZ m2
 have f4 := e3.fresh jk.1
 have mb := (bm jk (x := .box [AV.al])).bo mb
 have m2 := (bm jk (x := .box [AV.al])).bo m2
 have e4 := e3.new jk (x := .box [AV.al])
 generalize bX.new b4 (.box [AV.al]) = cE at *
 rw [cA m4]
 refine ⟨⟨rfl, rfl, by simp⟩, ?_⟩
 have k4 : (cE.set b4 (.box (aA [AV.al] 0 (ax (.agg [.ms b 0 l.length 6 43]))))).box b4 = some [.ms b 0 l.length 6 43] := by rw [aS]; rfl
 have kb : (cE.set b4 (.box (aA [AV.al] 0 (ax (.agg [.ms b 0 l.length 6 43]))))).box b = some (cw l) := by rw [aN ZA]; exact mb
 have k2 : (cE.set b4 (.box (aA [AV.al] 0 (ax (.agg [.ms b 0 l.length 6 43]))))).box b2 = some [.al] := by rw [aN n42]; exact m2
 have e5 := e4.set f4 (x := .box (aA [AV.al] 0 (ax (.agg [.ms b 0 l.length 6 43]))))
 generalize cE.set b4 _ = cW at *
 refine oS (eG k4 rfl ?_)
 rw [show bB (some false) (AV.ms b 0 l.length 6 43) = .val (.int .i64 l.length) from rfl, ai]
 refine ⟨fun m v2 v4 bF bP ae => ∃ i : Nat, m = l.length - i /\ i <= l.length /\ v2 = .box b2 0 /\ v4 = .box b4 0 /\ bF = .int .i64 l.length /\ bP = .int .i64 (i : Nat) /\ ae.box b2 = some [.al] /\ ae.box b4 = some [.ms b 0 l.length 6 43] /\ ae.box b = some (cw (fl (l.take i) ++ l.drop i)) /\ cJ U ae,
  ⟨_, 0, rfl, by omega, rfl, rfl, rfl, rfl, k2, k4, by simpa [fl] using kb, e5⟩, ?_⟩
 rintro m v2 v4 bF bP ae ⟨i, rfl, hi, rfl, rfl, rfl, rfl, k2, k4, kb, e⟩
 rw [bj, ai]
 refine dj (fun aJ => ?_) fun fZ => ?_
 · have aJ : i < l.length := by omega
   obtain ⟨x, hx⟩ : ∃ x, l[i]? = some x := ⟨l[i], by simp [aJ]⟩
   refine oS (eG k4 rfl ?_)
   refine Gk kb (Fi hx) (Cp l i).symm ?_
   rw [AA hx, cq]
   refine ⟨aZ (by omega) (by omega), l.length - (i + 1), by omega, i + 1, rfl, by omega, rfl, rfl, rfl, by simp, ?_, ?_, aS, e.set Yx⟩
   · rw [aN Dy]; exact k2
   · rw [aN ZA.symm]; exact k4
 · have hi : i = l.length := by omega
   subst hi
   refine gH k4 ?_
   rw [cA k2]
   refine ⟨⟨rfl, rfl, by simp⟩, ?_⟩
   rw [lq aS]
   refine ⟨by simp [aA], aj.mk (h _ b (e.set f2) Yx ?_)⟩
   rw [aN Dy.symm, kb]; simp [fl]
theorem Cn (h : l ≠ []) : fl l ≠ [] := by simp [fl, h]
theorem Az : (fl l).length = l.length := by simp [fl]
theorem H0 (hv : Sl v l) (hl : l.length <= 10000) (iy : ∀ x ∈ l, x.text.length <= 3000) : Pure K 40 [.agg [v]] (.aQ [.agg [gx (fH l).1], .int .i64 (fH l).2]) := by
 refine Pure.Qc (by simp [bU, hv.cl]) (by simp [closed, bU, oX]) fun R hR => ?_
 refine Oy ?_
 unfold Qp
 rw [eA rfl]
 intro b1 dC
 have m1 : ((bD ⟨.e, 0⟩).new b1 (.box (ax (.agg [v])))).box b1 = some [v] := aL
 generalize (bD _).new b1 _ = aF at *
 rw [cx]
 intro b2 gK
 have m2 : (aF.new b2 (.box [AV.al])).box b2 = some [.al] := aL
 have m1 := (bm gK (x := .box [AV.al])).bo m1
 generalize aF.new b2 (.box [AV.al]) = bJ at *
 refine gH m1 ?_
 have fin : ∀ (x : AV) (e : Int) (ae : St), ae.box b2 = some [.al] -> x.cS = true -> ax x = [x] -> (∀ z, resolve 3 (ae.set b2 (.box z)) x = gx (fH l).1) -> e = (fH l).2 -> au (fun v5 U => (bg v5 0).wp K U (fun v6 U => (bg v5 1).wp K U (fun v7 U => (aM (some (true, 1)) (.box b2 0) v6 U).wp K U (fun _ U => bl (some (true, 1)) (.box b2 0) U fun r0 => aj R (AV.aQ [r0, v7]) U) (aa R)) (aa R)) (aa R)) (aa R) (.ret (.aQ [.agg [x], .int .i64 e])) ae := by
  intro x e ae hb hx1 P4 hr he
  subst he
  simp only [bu, bR, List.drop, bG]
  rw [cA hb]
  refine ⟨⟨rfl, rfl, by simp⟩, ?_⟩
  rw [lq aS]
  refine ⟨by simp [aA], aj.mk (hR _ _ ?_)⟩
  show AV.aQ [.agg [resolve 3 _ x], _] = _
  rw [hr]; rfl
 refine Wf (fs := []) (cs := []) hv hl iy (by kernel_rfl) (fun ha cE e3 => ?_) (fun ha cE b6 e3 f6 m6 => ?_)
 · rw [nx] at ha ⊢
   have hu : fH l = ([], ey l) := by unfold fH; rw [if_pos ha]
   exact fin _ _ _ (e3.bo m2) rfl rfl (fun z => by rw [hu]; rfl) (by rw [hu])
 have m2 := e3.bo m2
 have hc : ey l = 0 := by rw [nx] at ha; exact ha
 have hu : fH l = (fl l, 0) := by unfold fH; rw [if_neg (by simp [hc])]
 have bQ : l ≠ [] := by
  obtain ⟨n, t, s', hn, rfl, h1, h2, h3, hs⟩ := qX ha
  intro e
  have := t.cR
  rw [e] at this; simp at this
 have Zz : b2 ≠ b6 := fun e => cK (by assumption : bJ.box b2 = some [AV.al]) (e ▸ f6)
 show af K 88 [.agg [v]] cE _
 refine Ob hv bQ hl fun cW b e4 fb mb => ?_
 have Dy : b2 ≠ b := fun e => cK m2 (e ▸ fb)
 have ZC : b6 ≠ b := fun e => cK m6 (e ▸ fb)
 have m2 := e4.bo m2
 refine ⟨_, _, rfl, rfl, rfl, e4.bo m6, fun h => absurd rfl h, fun _ z1 z2 => fin _ _ _ ?_ rfl rfl (fun z => ?_) (by rw [hu])⟩
 · rw [aN Zz, aN Zz]; exact m2
 · rw [hu, <- Az (l := l)]
   exact sc (by rw [aN Dy.symm, aN ZC.symm, aN ZC.symm]; exact mb) (Cn bQ)
theorem HA (hv : Sl v l) (hl : l.length <= 10000) (iy : ∀ x ∈ l, x.text.length <= 3000) : Pure K 41 [.agg [v]] (.aQ [.agg [gx (fH l).1], .int .i64 (fH l).2]) := by
 refine Pure.Qc (by simp [bU, hv.cl]) (by simp [closed, bU, oX]) fun R hR => ?_
 refine Oz ?_
 unfold Qq
 rw [eA rfl]
 intro b1 dC
 have m1 : ((bD ⟨.e, 0⟩).new b1 (.box (ax (.agg [v])))).box b1 = some [v] := aL
 generalize (bD _).new b1 _ = aF at *
 rw [cx]
 intro b2 gK
 have m2 : (aF.new b2 (.box [AV.al])).box b2 = some [.al] := aL
 have m1 := (bm gK (x := .box [AV.al])).bo m1
 generalize aF.new b2 (.box [AV.al]) = bJ at *
 refine gH m1 ?_
 refine Fl (hv.eO _) (by omega) (fun x hx => by have := iy x hx; omega) fun bX e2 => ?_
 have m1 := e2.bo m1
 have m2 := e2.bo m2
 simp only [bu, ct, ai]
 by_cases hc : ey l = 0
 rotate_left
 · have hu : fH l = ([], ey l) := by unfold fH; rw [if_pos hc]
   simp only [hc, cm, da]
   refine cG (nP [.al] rfl ?_)
   rw [cA m2]
   refine ⟨⟨rfl, rfl, by simp⟩, ?_⟩
   rw [lq aS]
   refine ⟨by simp [aA], aj.mk (hR _ _ ?_)⟩
   rw [hu]; rfl
 simp only [hc, bS, bV]
 refine du (gH m1 ?_)
 have hu : fH l = (fl l, 0) := by unfold fH; rw [if_neg (by simp [hc])]
 have bQ : l ≠ [] := by
  have ha : j9 l 0 = 0 := by rw [nx, hc]
  obtain ⟨n, t, s', hn, rfl, h1, h2, h3, hs⟩ := qX ha
  intro e
  have := t.cR
  rw [e] at this; simp at this
 refine Rq hv bQ (by omega) fun cE b e3 fb mb => ?_
 rw [bu]
 have Dy : b2 ≠ b := fun e => cK m2 (e ▸ fb)
 have m2 := e3.bo m2
 rw [cx]
 intro b5 pc
 have m5 : (cE.new b5 (.box [AV.al])).box b5 = some [.al] := aL
 have ZB := pc.bZ mb
 have n52 := pc.bZ m2
 have mb := (bm pc (x := .box [AV.al])).bo mb
 have m2 := (bm pc (x := .box [AV.al])).bo m2
 generalize cE.new b5 (.box [AV.al]) = cW at *
 rw [cA m5]
 refine ⟨⟨rfl, rfl, by simp⟩, ?_⟩
 have k5 : (cW.set b5 (.box (aA [AV.al] 0 (ax (.agg [.ms b 0 l.length 6 43]))))).box b5 = some [.ms b 0 l.length 6 43] := by rw [aS]; rfl
 have kb : (cW.set b5 (.box (aA [AV.al] 0 (ax (.agg [.ms b 0 l.length 6 43]))))).box b = some (cw l) := by rw [aN ZB]; exact mb
 have k2 : (cW.set b5 (.box (aA [AV.al] 0 (ax (.agg [.ms b 0 l.length 6 43]))))).box b2 = some [.al] := by rw [aN n52]; exact m2
 generalize cW.set b5 _ = dV at *
 refine ⟨fun m v2 v5 v6 ae => ∃ i : Nat, m = l.length - i /\ i <= l.length /\ v2 = .box b2 0 /\ v5 = .box b5 0 /\ v6 = .int .i64 (i : Nat) /\ ae.box b2 = some [.al] /\ ae.box b5 = some [.ms b 0 l.length 6 43] /\ ae.box b = some (cw (fl (l.take i) ++ l.drop i)),
  ⟨_, 0, rfl, by omega, rfl, rfl, rfl, k2, k5, by simpa [fl] using kb⟩, ?_⟩
 rintro m v2 v5 v6 ae ⟨i, rfl, hi, rfl, rfl, rfl, k2, k5, kb⟩
 refine oS (eG k5 rfl ?_)
 rw [show bB (some false) (AV.ms b 0 l.length 6 43) = .val (.int .i64 l.length) from rfl, ai, bj, ai]
 refine dj (fun aJ => ?_) fun fZ => ?_
 · have aJ : i < l.length := by omega
   obtain ⟨x, hx⟩ : ∃ x, l[i]? = some x := ⟨l[i], by simp [aJ]⟩
   refine oS (eG k5 rfl ?_)
   refine Gk kb (Fi hx) (Cp l i).symm ?_
   rw [AA hx, cq]
   refine ⟨aZ (by omega) (by omega), l.length - (i + 1), by omega, i + 1, rfl, by omega, rfl, rfl, by simp, ?_, ?_, aS⟩
   · rw [aN Dy]; exact k2
   · rw [aN ZB.symm]; exact k5
 · have hi : i = l.length := by omega
   subst hi
   refine gH k5 ?_
   rw [cA k2]
   refine ⟨⟨rfl, rfl, by simp⟩, ?_⟩
   rw [lq aS]
   refine ⟨by simp [aA], aj.mk (hR _ _ ?_)⟩
   rw [hu]
   have hb : (ae.set b2 (.box (aA [AV.al] 0 (ax (.agg [.ms b 0 l.length 6 43]))))).box b = some (cw (fl l)) := by
    rw [aN Dy.symm, kb]; simp [fl]
   generalize ae.set b2 _ = ot at *
   show AV.aQ [.agg [resolve 3 ot (.ms b 0 l.length 6 43)], _] = _
   rw [<- Az (l := l), sc hb (Cn bQ)]; rfl
end
end Go.Rip
namespace Go.Rip
open Go.Proofs Go.RowKit
theorem GH {v : AV} {l : List Nd} (hv : Sl v l) (s : bf) : Pure K 11 [.agg [v], .str s] (.bool true) := by
 refine Pure.of (by simp [bU, hv.cl, show closed (.str s) = true from rfl]) rfl (fun U => rfl) fun R hR => ?_
 refine On ?_
 unfold Qh
 rw [eA rfl]
 intro b1 dC
 have m1 : ((bD ⟨.e, 0⟩).new b1 (.box (ax (.agg [v])))).box b1 = some [v] := aL
 generalize (bD _).new b1 _ = aF at *
 refine gH m1 ((MI hv).go ?_)
 simp only [cU, ai]
 cases ht : o4 l with
 | false =>
   simp only [da, aI, show (true == false) = false from rfl, aB, a8, az, if_true, ai]
   exact cG (tl.go (aj.mk (hR _)))
 | true =>
   simp only [bV, aI, dw, aB, bp, aw]
   rw [show bB (some true) (AV.str s) = .val (.int .i64 s.length) from rfl, aw, dD, aw]
   simp only [az, bq, if_false, ai]
   refine dj (fun _ => tl.go (aj.mk (hR _))) fun hs => ?_
   obtain ⟨hl, iy⟩ := vU.1 ht
   have iy : ∀ x ∈ l, x.text.length <= 3000 := fun x hx => by have := iy x hx; omega
   have cl := Ig hv (by omega)
   have cv := FX l
   refine gH m1 (cl.go ((Iq cv (by omega) iy s).go ?_))
   simp only [bR, List.drop, bG]
   refine gH m1 ((HB hv (by omega) iy s).go ?_)
   simp only [bR, List.drop, bG]
   refine gH m1 (cl.go ((H0 cv (by omega) iy).go ?_))
   simp only [bR, List.drop, bG]
   rw [cx]
   intro b9 CO
   have m9 : (aF.new b9 (.box [AV.al])).box b9 = some [.al] := aL
   have m1 := (bm CO (x := .box [AV.al])).bo m1
   have n19 := CO.bZ (by assumption : aF.box b1 = some [v])
   generalize aF.new b9 (.box [AV.al]) = bJ at *
   rw [cA m9]
   refine ⟨⟨rfl, rfl, by simp⟩, ?_⟩
   have m1 : (bJ.set b9 (.box (aA [AV.al] 0 (ax (.agg [gx (fH l).1]))))).box b1 = some [v] := by rw [aN n19]; exact m1
   have m9 : (bJ.set b9 (.box (aA [AV.al] 0 (ax (.agg [gx (fH l).1]))))).box b9 = some [gx (fH l).1] := by rw [aS]; rfl
   generalize bJ.set b9 _ = bX at *
   refine gH m1 ((HA hv (by omega) iy).go ?_)
   simp only [bR, List.drop, bG]
   rw [cx]
   intro fL oC
   have m11 : (bX.new fL (.box [AV.al])).box fL = some [.al] := aL
   have aaH := oC.bZ m9
   have m9 := (bm oC (x := .box [AV.al])).bo m9
   generalize bX.new fL (.box [AV.al]) = cE at *
   rw [cA m11]
   refine ⟨⟨rfl, rfl, by simp⟩, ?_⟩
   have m9 : (cE.set fL (.box (aA [AV.al] 0 (ax (.agg [gx (fH l).1]))))).box b9 = some [gx (fH l).1] := by rw [aN aaH]; exact m9
   have m11 : (cE.set fL (.box (aA [AV.al] 0 (ax (.agg [gx (fH l).1]))))).box fL = some [gx (fH l).1] := by rw [aS]; rfl
   generalize cE.set fL _ = cW at *
   have vb : (fH l).1.length <= 1000000 := by
    unfold fH; split
    · simp
    · simp [fl]; omega
   simp only [aW, ai, bS, aI, dw, aB, bp, aw, az, if_true]
   rw [B2 m9]
   refine ⟨by simp, ?_⟩
   rw [B2 m11]
   refine ⟨by simp, ?_⟩
   refine jc (show Pure K 22 _ (.bool true) from by simpa using J2 (fH l).1 (fH l).1 vb vb) ?_
   simp only [az, if_true, ai, aI, dw, aB, bp, aw]
   refine jc tl ?_
   exact aj.mk (hR _)
end Go.Rip
