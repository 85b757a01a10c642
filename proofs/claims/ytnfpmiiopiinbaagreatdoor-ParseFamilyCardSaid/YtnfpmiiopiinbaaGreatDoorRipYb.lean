/- Lemmas for the proof: no conditions. -/
import Derived.Test.YtnfpmiiopiinbaaGreatDoorRipZz
import Derived.Test.YtnfpmiiopiinbaaGreatDoorRipYa
import Derived.Test.YtnfpmiiopiinbaaGreatDoorRipW
import Derived.Test.YtnfpmiiopiinbaaGreatDoorRipR
import Derived.Test.YtnfpmiiopiinbaaGreatDoorRipF
import Derived.Test.YtnfpmiiopiinbaaGreatDoorRipV
import Derived.Test.YtnfpmiiopiinbaaGreatDoorRipG
import Derived.Test.YtnfpmiiopiinbaaGreatDoorRipAw
set_option linter.unusedVariables false
set_option linter.unusedSimpArgs false
set_option linter.loopingSimpArgs false
namespace Go.Rip
open Go.Proofs Go.RowKit
structure Sl (v : AV) (l : List Nd) : Prop where
 s : dX v l.length (cF l)
 c : closed v = true
theorem wy (l : List Nd) : Sl (qu l) l := by
 refine ⟨?_, rJ l⟩
 unfold qu
 split
 · rename_i h; subst h; exact .inl ⟨rfl, rfl, rfl⟩
 · exact .inr ⟨_, rfl⟩
theorem Sl.fO {v : AV} {l : List Nd} (h : Sl v l) (U : St) : hU U v l := h.s.Ah
theorem Sl.cl {v : AV} {l : List Nd} (h : Sl v l) : closed (.agg [v]) = true := by simp [closed, bG, h.c]
theorem uk {b o k : Nat} {U : St} {K' : AV -> St -> Prop} {Kp : AV -> St -> Prop} (h : K' (.box b (o + k)) U) : (ah (some k) (.box b o)).wp K U K' Kp := h
theorem gr {b : Nat} {v : AV} {U τ : St} {K' : AV -> St -> Prop} {Kp : AV -> St -> Prop} (hb : U.box b = some [v]) (h : K' (.agg [v]) τ) : (ao (some (true, 1)) (.box b 0) U).wp K τ K' Kp := by
 rw [rD hb]; exact ⟨by simp, h⟩
def oU (l : List Nd) : Bool := decide (l.length <= 1000) && l.all fun x => decide (x.text.length <= 100)
theorem vU {l : List Nd} : oU l = true ↔ l.length <= 1000 /\ ∀ x ∈ l, x.text.length <= 100 := by simp [oU]
theorem Ax {v : AV} {l : List Nd} (hv : dX v l.length (cF l)) : Pure K 49 [v] (.bool (oU l)) := by
 intro U R hR
 refine Oo ?_
 unfold Qq
 rw [hv.len, ai]
 refine sZ (dt (fun h => ?_) fun h => ?_)
 · refine aj.eq hR ?_
   have : oU l = false := by unfold oU; rw [decide_eq_false (by omega)]; rfl
   rw [this]
 refine ⟨fun m v0 v3 ae => ∃ i : Nat, m = l.length - i /\ i <= l.length /\ v0 = v /\ v3 = .int .i64 (i : Nat) /\ ae = U /\ ∀ j x, j < i -> l[j]? = some x -> x.text.length <= 100, ⟨_, 0, rfl, by omega, rfl, rfl, rfl, fun j x h => by omega⟩, ?_⟩
 rintro m v0 v3 ae ⟨i, rfl, hi, rfl, rfl, rfl, bq⟩
 have hlen : bw (some false) v0 = .val (.int .i64 l.length) := hv.len
 rw [hlen, ai, bj, ai]
 refine dt (fun aJ => ?_) fun gn => ?_
 · have aJ : i < l.length := by omega
   obtain ⟨x, hx⟩ : ∃ x, l[i]? = some x := ⟨l[i], by simp [aJ]⟩
   refine si hv.Ah hx (show (cM x)[1]? = some (.str x.text) from rfl) ?_
   show ((av.val (.int .i64 x.text.length)).wp K _ _ _)
   rw [ai]
   refine sZ (dt (fun h => ?_) fun h => ?_)
   · refine aj.eq hR ?_
     have : oU l = false := by
      cases ht : oU l with
      | false => rfl
      | true => have := (vU.1 ht).2 x (fB hx); omega
     rw [this]
   · rw [cn]
     refine ⟨aX (by omega) (by omega), l.length - (i + 1), by omega, i + 1, rfl, by omega, rfl, by simp, rfl, fun j y hj hy => ?_⟩
     by_cases qi : j = i
     · subst qi; rw [hx] at hy; cases hy; omega
     · exact bq j y (by omega) hy
 · refine aj.eq hR ?_
   have : oU l = true := vU.2 ⟨by omega, fun x hx => by
    obtain ⟨j, hj, rfl⟩ := List.getElem_of_mem hx
    exact bq j _ (by omega) (by simp [hj])⟩
   rw [this]
theorem MA {v : AV} {l : List Nd} (hv : Sl v l) : Pure K 24 [.agg [v]] (.bool (oU l)) := by
 refine Pure.of (by simp [bG, hv.cl]) rfl (fun U => rfl) fun R hR => ?_
 refine Ob ?_
 unfold Qd
 rw [dO rfl]
 intro b1 dK
 have m1 : ((br ⟨.e, 0⟩).new b1 (.box (aA (.agg [v])))).box b1 = some [v] := aN
 generalize (br _).new b1 _ = aE at *
 refine uk (et m1 rfl ((Ax hv.s).go ?_))
 exact aj.mk (hR _)
theorem ML {mu : Bool} {e sz m : Nat} {y : AV} {l2 : List AV} {U : St} {K' : AV -> St -> Prop} {Kp : AV -> St -> Prop} (hy : pn U y = some (m, l2)) (hl : l2.length = m * sz) (hb : m <= 4294967296)
 (h0 : m = 0 -> K' .ax U) (h1 : m ≠ 0 -> mu = true -> ∀ b, U.cN b -> K' (.ms b 0 m sz e) (U.new b (.box l2))) (h2 : m ≠ 0 -> mu = false -> ∀ b, U.cN b -> K' (.vec m (.own b) l2) (U.new b (.tok ⟨m, e, sz⟩))) : (eJ (some (e, sz)) mu .ax y U).wp K U K' Kp := by
 simp only [eJ, hy, wp_cond]
 refine ⟨hl, ?_⟩
 by_cases hm : m = 0
 · rw [if_pos hm, ai]; exact h0 hm
 · rw [if_neg hm, wp_cond]
   refine ⟨hb, ?_⟩
   cases mu with
   | true => exact fun b dA => h1 hm rfl b dA
   | false => exact fun b dA => h2 hm rfl b dA
theorem Hp {n b k z e : Nat} {U : St} {L : List AV} (h : U.box b = some L) : resolve (n + 1) U (.ms b 0 k z e) = .vec k .hC (L.map (resolve n U)) := by
 rw [resolve, h]; rfl
theorem xu {n b : Nat} {U : St} {l : List Nd} (h : U.box b = some (cF l)) (h0 : l ≠ []) : resolve (n + 2) U (.ms b 0 l.length 6 43) = qu l := by
 rw [Hp h, xv, qu, if_neg h0]
theorem HY {v : AV} {l : List Nd} (hv : Sl v l) (hl : l.length <= 100000) : Pure K 26 [.agg [v]] (.agg [qu l]) := by
 refine Pure.FQ (by simp [bG, hv.cl]) (wy l).cl fun R hR => ?_
 refine Oc ?_
 unfold Qe
 rw [dO rfl]
 intro b1 dK
 have m1 : ((br ⟨.e, 0⟩).new b1 (.box (aA (.agg [v])))).box b1 = some [v] := aN
 generalize (br _).new b1 _ = aE at *
 rw [dQ]
 intro b2 ij
 have m2 : (aE.new b2 (.box [AV.ax])).box b2 = some [.ax] := aN
 have m1 := (bH ij (x := .box [AV.ax])).bL m1
 generalize aE.new b2 (.box [AV.ax]) = bT at *
 refine uk (et m1 rfl ?_)
 refine ML (hv.fO _).src (mI l ▸ by omega) (by omega) (fun h0 => ?_) (fun h1 _ b hb => ?_) (fun _ h => by cases h)
 · have : l = [] := rX.1 h0
   subst this
   refine oZ [.ax] rfl ?_
   rw [dD m2]
   refine ⟨⟨rfl, rfl, by simp⟩, ?_⟩
   rw [wB bo]
   exact ⟨by simp [aH], aj.mk (hR _ _ rfl)⟩
 · have cm := hb.cD m2
   refine oZ [.ms b 0 l.length 6 43] rfl ?_
   rw [dD (show (bT.new b (.box (cF l))).box b2 = some _ by rw [nP cm]; exact m2)]
   refine ⟨⟨rfl, rfl, by simp⟩, ?_⟩
   rw [wB bo]
   refine ⟨by simp [aH], aj.mk (hR _ _ ?_)⟩
   have qW : ((bT.new b (.box (cF l))).set b2 (.box (aH [AV.ax] 0 (aA (.agg [.ms b 0 l.length 6 43]))))).box b = some (cF l) := by
    rw [aY cm.symm, aN]
   generalize (bT.new b (.box (cF l))).set b2 _ = bR at *
   show AV.agg [resolve 4 bR (.ms b 0 l.length 6 43)] = _
   have : l ≠ [] := fun e => h1 (by rw [e]; rfl)
   rw [xu qW this]
noncomputable def eu (l : List Nd) (p : Int) : Int := if gu l ≠ 0 then gu l else if p < 0 \/ (l.length : Int) <= p then 3 else 0
theorem xI {v : AV} {l : List Nd} (hv : Sl v l) (hl : l.length <= 10000) (fN : ∀ x ∈ l, x.text.length <= 3000) (p : Int) : Pure K 65 [.agg [v], .int .i64 p] (.int .i64 (eu l p)) := by
 refine Pure.of (by simp [bG, hv.cl, show closed (.int .i64 p) = true from rfl]) rfl (fun U => rfl) fun R hR => ?_
 refine Ot ?_
 unfold Qt
 rw [dO rfl]
 intro b1 dK
 have m1 : ((br ⟨.e, 0⟩).new b1 (.box (aA (.agg [v])))).box b1 = some [v] := aN
 generalize (br _).new b1 _ = aE at *
 refine gr m1 ?_
 refine Rp (hv.fO _) (by omega) (fun x hx => by have := fN x hx; omega) fun bT e1 => ?_
 have m1 := e1.bL m1
 simp only [bu, bS, ai]
 by_cases hc : gu l = 0
 rotate_left
 · simp only [hc, bZ, cZ]
   refine cu (aj.mk ?_)
   have : eu l p = gu l := by unfold eu; rw [if_pos hc]
   rw [<- this]; exact hR _
 simp only [hc, bM, bU]
 refine cO ?_
 rw [bj, ai]
 by_cases hp : p < 0
 · simp only [hp, bM, aI, show (true == false) = false from rfl, aB, a8, gj, ay, if_true, ai]
   refine cu (aj.mk ?_)
   have : eu l p = 3 := by unfold eu; rw [if_neg (by simp [hc]), if_pos (.inl hp)]
   rw [<- this]; exact hR _
 · simp only [hp, bZ, aI, du, aB, bl, au]
   refine iD (dr m1 rfl ?_)
   rw [hv.s.len, au, dG, au]
   simp only [ay, bm, if_false, ai]
   refine dt (fun h => aj.mk ?_) fun h => aj.mk ?_
   · have : eu l p = 3 := by unfold eu; rw [if_neg (by simp [hc]), if_pos (.inr h)]
     rw [<- this]; exact hR _
   · have : eu l p = 0 := by unfold eu; rw [if_neg (by simp [hc]), if_neg (by omega)]
     rw [<- this]; exact hR _
theorem nv {l : List Nd} {p : Int} (h : eu l p = 0) : ∃ (n : Nat) (t s : Tre), p = n /\ l = t.flat /\ t.kind = 1 /\ t.ok = true /\ n < l.length /\ eS l n s := by
 unfold eu at h
 split at h
 · rename_i hc; exact absurd h hc
 · rename_i hc
   split at h
   · cases h
   · rename_i hp
     have hc : gu l = 0 := Classical.not_not.1 hc
     have h9 : ¬ 900 < l.length := fun h => by unfold gu at hc; rw [if_pos h] at hc; cases hc
     have : ∃ t : Tre, l = t.flat /\ t.kind = 1 /\ t.ok = true := Classical.not_not.1 fun h => by rw [yy h9 h] at hc; cases hc
     obtain ⟨t, rfl, h1, h2⟩ := this
     obtain ⟨⟨s, _, hs, _⟩, _⟩ := place t (i := p.toNat) (by omega)
     exact ⟨p.toNat, t, s, by omega, rfl, h1, h2, by omega, hs⟩
end Go.Rip
namespace Go.Rip
open Go.Proofs Go.RowKit
theorem Er (ks : List Nat) : bG (dB ks) = true := by
 induction ks with
 | nil => rfl
 | cons k ks ih => show bG (.int .i64 (k : Nat) :: dB ks) = true; simp [bG, closed, ih]
theorem DP (n : Nat) (U : St) (ks : List Nat) : (dB ks).map (resolve (n + 1) U) = dB ks := by
 induction ks with
 | nil => rfl
 | cons k ks ih => show .int .i64 (k : Nat) :: (dB ks).map (resolve (n + 1) U) = _; rw [ih]; rfl
def lh (ks : List Nat) : AV := if ks = [] then .ax else .vec ks.length .hC (dB ks)
theorem uX (ks : List Nat) : closed (lh ks) = true := by
 unfold lh; split
 · rfl
 · exact Er ks
theorem Dh (ks : List Nat) : dX (lh ks) ks.length (dB ks) := by
 unfold lh; split
 · rename_i h; subst h; exact .inl ⟨rfl, rfl, rfl⟩
 · exact .inr ⟨_, rfl⟩
theorem fm.ints {aE U : St} {v : AV} {ks : List Nat} (h : fm aE U v 3 1 ks.length (dB ks)) (n : Nat) (τ : St) : resolve (n + 2) τ v = lh ks := by
 unfold lh
 split
 · rename_i e; subst e; rw [h.z rfl]; rfl
 · rename_i e
   rcases h.g with ⟨h1, _, _⟩ | ⟨t, rfl, _, _⟩
   · exact absurd (rX.1 h1) e
   · show AV.vec ks.length .hC ((dB ks).map (resolve (n + 1) τ)) = _
     rw [DP]
def y9 (l : List Nd) (p : Nat) : List Nat := ff l ((p : Int) + eH l p) l.length (p + 1)
theorem nI {l : List Nd} {n : Nat} {x : Nd} (h : l[n]? = some x) : eH l n = x.size.toNat := by unfold eH; rw [h]; rfl
theorem Jc {l : List Nd} {n : Nat} {s : Tre} (h : eS l n s) : y9 l n = bJ (n + 1) s.kids := by
 obtain ⟨x, hx, _, hs, _⟩ := h.kB
 unfold y9
 rw [nI hx, show (x.size.toNat : Int) = s.flat.length by omega]
 exact xR h
noncomputable def lS (l : List Nd) (p : Int) : List Nat := if eu l p = 0 then y9 l p.toNat else []
theorem Hr {v : AV} {l : List Nd} (hv : Sl v l) (hl : l.length <= 10000) (fN : ∀ x ∈ l, x.text.length <= 3000) (p : Int) : Pure K 42 [.agg [v], .int .i64 p] (.aO [lh (lS l p), .int .i64 (eu l p)]) := by
 refine Pure.FQ (by simp [bG, hv.cl, show closed (.int .i64 p) = true from rfl]) (by simp [closed, bG, uX]) fun R hR => ?_
 refine Oi ?_
 unfold Qk
 rw [dO rfl]
 intro b1 dK
 have m1 : ((br ⟨.e, 0⟩).new b1 (.box (aA (.agg [v])))).box b1 = some [v] := aN
 generalize (br _).new b1 _ = aE at *
 refine gr m1 ((xI hv hl fN p).go ?_)
 rw [bS, ai]
 by_cases ha : eu l p = 0
 rotate_left
 · simp only [ha, bZ, cZ]
   refine cu (aj.mk (hR _ _ ?_))
   have : lS l p = [] := by unfold lS; rw [if_neg ha]
   rw [this]; rfl
 simp only [ha, bM, bU]
 refine cO (uk (et m1 rfl ?_))
 obtain ⟨n, t, s, rfl, rfl, h1, h2, h3, hs⟩ := nv ha
 refine za (hv.fO _) hs (by omega) fun ae v' g => ?_
 refine aj.mk (hR _ _ ?_)
 have : lS t.flat n = bJ (n + 1) s.kids := by unfold lS; rw [if_pos ha, dC, Jc hs]
 show AV.aO [resolve 4 ae v', _] = _
 rw [<- jd (n + 1) s.kids] at g
 rw [g.ints, this, ha]; rfl
def rB (l : List Nd) (p : Nat) : Nat -> Nat
 | 0 => 0
 | i + 1 => if i + 1 + eH l (i + 1) <= p then rB l p i else i + 1
theorem Sj {U : St} {R : cB -> St -> Prop} {v : AV} {l : List Nd} {p : Nat} (hv : dX v l.length (cF l)) (hs : pZ l) (hl : l.length <= 10000) (h0 : 0 < p) (hp : p < l.length) (h : R (.ret (.int .i64 (rB l p (p - 1) : Nat))) U) : af K 90 [v, .int .i64 (p : Nat)] U R := by
 refine ON ?_
 unfold QO
 rw [dH, dp, wp_cond, ai]
 refine ⟨aX (by omega) (by omega), ?_⟩
 refine ⟨fun m v0 v1 v5 ae => ∃ i : Nat, m = i /\ i < p /\ v0 = v /\ v1 = .int .i64 (p : Nat) /\ v5 = .int .i64 (i : Nat) /\ ae = U /\ rB l p i = rB l p (p - 1), ⟨_, p - 1, rfl, by omega, rfl, rfl, by congr 1; omega, rfl, rfl⟩, ?_⟩
 rintro m v0 v1 v5 ae ⟨i, rfl, hi, rfl, rfl, rfl, rfl, hu⟩
 obtain ⟨x, hx⟩ : ∃ x, l[m]? = some x := ⟨l[m]'(by omega), by simp [show m < l.length by omega]⟩
 have xf := hs.2.2 m x hx
 refine si hv.Ah hx (show (cM x)[5]? = some (.int .i64 x.size) from rfl) ?_
 rw [cn]
 refine ⟨aX (by omega) (by omega), ?_⟩
 rw [eK, ai]
 have A8 := nI hx
 refine dt (fun hle => ?_) fun uB => ?_
 · have hm : m ≠ 0 := by
    rintro rfl
    have := hs.2.1
    cases l with
    | nil => simp at hx
    | cons y r =>
      simp at hx; subst hx
      simp only [jm] at this
      omega
   rw [dH, dp, wp_cond, ai]
   refine ⟨aX (by omega) (by omega), m - 1, by omega, m - 1, rfl, by omega, rfl, rfl, by congr 1; omega, rfl, ?_⟩
   rw [<- hu]
   obtain ⟨k, rfl⟩ : ∃ k, m = k + 1 := ⟨m - 1, by omega⟩
   rw [Nat.add_sub_cancel, rB, if_pos (by omega)]
 · refine aj.eq h ?_
   rw [<- hu]
   cases m with
   | zero => rfl
   | succ k => rw [rB, if_neg (by omega)]
noncomputable def oo (l : List Nd) (p : Int) : Nat × Int := if eu l p ≠ 0 then (0, eu l p) else if p = 0 then (0, 7) else (rB l p.toNat (p.toNat - 1), 0)
theorem tn {t : Tre} : pZ t.flat := ((ry t.flat).2 ⟨t, rfl⟩).1
theorem N7 {v : AV} {l : List Nd} (hv : Sl v l) (hl : l.length <= 10000) (fN : ∀ x ∈ l, x.text.length <= 3000) (p : Int) : Pure K 43 [.agg [v], .int .i64 p] (.aO [.int .i64 (oo l p).1, .int .i64 (oo l p).2]) := by
 refine Pure.of (by simp [bG, hv.cl, show closed (.int .i64 p) = true from rfl]) rfl (fun U => rfl) fun R hR => ?_
 refine Oj ?_
 unfold Ql
 rw [dO rfl]
 intro b1 dK
 have m1 : ((br ⟨.e, 0⟩).new b1 (.box (aA (.agg [v])))).box b1 = some [v] := aN
 generalize (br _).new b1 _ = aE at *
 refine gr m1 ((xI hv hl fN p).go ?_)
 rw [bS, ai]
 by_cases ha : eu l p = 0
 rotate_left
 · have hu : oo l p = (0, eu l p) := by unfold oo; rw [if_pos ha]
   simp only [ha, bZ, cZ]
   refine cu (aj.mk ?_)
   rw [hu] at hR; exact hR _
 simp only [ha, bM, bU]
 refine cO ?_
 rw [aR, ai]
 refine dt (fun h => ?_) fun h => ?_
 · have hu : oo l p = (0, 7) := by unfold oo; rw [if_neg (by simp [ha]), if_pos h]
   refine aj.mk ?_
   rw [hu] at hR; exact hR _
 · have hu : oo l p = (rB l p.toNat (p.toNat - 1), 0) := by unfold oo; rw [if_neg (by simp [ha]), if_neg h]
   refine uk (et m1 rfl ?_)
   obtain ⟨n, t, s, rfl, rfl, h1, h2, h3, hs⟩ := nv ha
   refine Sj hv.s tn (by omega) (by omega) h3 ?_
   refine aj.mk ?_
   rw [hu, dC] at hR; exact hR _
noncomputable def lH (l : List Nd) (p : Int) : List Nd := if eu l p = 0 then (l.drop p.toNat).take (eH l p.toNat) else []
theorem Jr (l : List Nd) (n : Nat) : (cF l).take (n * 6) = cF (l.take n) := by
 induction l generalizing n with
 | nil => simp [cF]
 | cons x l ih =>
   cases n with
   | zero => simp [cF]
   | succ n =>
     show (cM x ++ cF l).take ((n + 1) * 6) = cM x ++ cF (l.take n)
     rw [List.take_append, <- ih]
     have : (cM x).length = 6 := rfl
     rw [this, qC (by rw [this]; omega), show (n + 1) * 6 - 6 = n * 6 by omega]
theorem Mu {v : AV} {l : List Nd} (hv : dX v l.length (cF l)) (h0 : l ≠ []) {a b : Nat} (yM : a <= b) (hb : b <= l.length) {hi : Option AV} (UK : cV l.length hi = some (b : Int)) {lo : Option AV} (US : cV 0 lo = some (a : Int)) :
 ∃ c, dU false (some (43, 6)) v lo hi = .cond (0 <= (a : Int) /\ (a : Int) <= b /\ (b : Int) <= l.length) (.val (.vec ((l.take b).drop a).length c (cF ((l.take b).drop a)))) := by
 rcases hv with ⟨h1, _, _⟩ | ⟨c, rfl⟩
 · exact absurd (rX.1 h1) h0
 · refine ⟨oN c hi, ?_⟩
   rw [rz, UK, US]
   simp only [dC]
   have : b - a = ((l.take b).drop a).length := by simp; omega
   rw [this, Jr, Br]
theorem F1 {v : AV} {l : List Nd} (hv : dX v l.length (cF l)) (h0 : l ≠ []) {a b : Nat} (yM : a <= b) (hb : b <= l.length) {hi lo : Option AV} (UK : cV l.length hi = some (b : Int)) (US : cV 0 lo = some (a : Int)) {k : AV -> Prop}
 (h : ∀ c, k (.vec ((l.take b).drop a).length c (cF ((l.take b).drop a)))) : az K (dU false (some (43, 6)) v lo hi) k := by
 obtain ⟨c, e⟩ := Mu hv h0 yM hb UK US
 rw [e, gD, au]
 exact ⟨by omega, h c⟩
theorem EX (n k τ : Nat) (U : St) (L : List AV) : resolve (n + 1) U (.vec k (.own τ) L) = .vec k .hC (L.map (resolve n U)) := rfl
theorem JP {v : AV} {l : List Nd} (hv : Sl v l) (hl : l.length <= 10000) (fN : ∀ x ∈ l, x.text.length <= 3000) (p : Int) : Pure K 45 [.agg [v], .int .i64 p] (.aO [qu (lH l p), .int .i64 (eu l p)]) := by
 refine Pure.FQ (by simp [bG, hv.cl, show closed (.int .i64 p) = true from rfl]) (by simp [closed, bG, rJ]) fun R hR => ?_
 refine Ol ?_
 unfold Qn
 rw [dO rfl]
 intro b1 dK
 have m1 : ((br ⟨.e, 0⟩).new b1 (.box (aA (.agg [v])))).box b1 = some [v] := aN
 generalize (br _).new b1 _ = aE at *
 refine gr m1 ((xI hv hl fN p).go ?_)
 rw [bS, ai]
 by_cases ha : eu l p = 0
 rotate_left
 · simp only [ha, bZ, cZ]
   refine cu (aj.mk (hR _ _ ?_))
   have : lH l p = [] := by unfold lH; rw [if_neg ha]
   rw [this]; rfl
 simp only [ha, bM, bU]
 refine cO (iD (dr m1 rfl (iD (dr m1 rfl ?_))))
 obtain ⟨n, t, s, rfl, rfl, h1, h2, h3, hs⟩ := nv ha
 obtain ⟨x, hx, _, xf, _⟩ := hs.kB
 have hle := hs.le
 refine vK hv.s hx fun r => ?_
 simp only [cQ, au, cM, jb, List.drop, kJ, eQ]
 rw [tU]
 refine ⟨aX (by omega) (by omega), ?_⟩
 have cm : t.flat ≠ [] := fun e => by rw [e] at h3; simp at h3
 have hb : ((n : Int) + x.size) = ((n + s.flat.length : Nat) : Int) := by omega
 rw [hb]
 refine F1 (a := n) (b := n + s.flat.length) hv.s cm (by omega) hle (fo _ _ _) (fo _ _ _) fun c => ?_
 have ju : lH t.flat n = ((t.flat.take (n + s.flat.length)).drop n) := by
  unfold lH
  rw [if_pos ha, dC, nI hx, List.drop_take]
  congr 1; omega
 have mY := s.dh
 rw [<- ju]
 have hlen : (lH t.flat n).length = s.flat.length := by rw [ju]; simp; omega
 have xe : lH t.flat n ≠ [] := fun e => by rw [e] at hlen; simp at hlen; omega
 refine ML rfl (mI _ ▸ by omega) (by omega) (fun h0 => absurd h0 (by omega)) (fun _ h => by cases h) (fun _ _ b hb => ?_)
 refine ⟨fun b' dA => ?_, aj.mk (hR _ _ ?_)⟩
 · simp only [cT, ja, jc, fH, eA, List.not_mem_nil, or_false] at dA
   have CN : b' = b1 := by rcases dA with h | h <;> exact h
   rw [CN, lA, if_neg (hb.cD m1)]
 · show AV.aO [resolve 4 _ (.vec _ (.own b) _), _] = _
   rw [EX, xv, qu, if_neg xe, ha]; rfl
end Go.Rip
namespace Go.Rip
open Go.Proofs Go.RowKit
theorem yl {a b n : Int} {U : St} {K' : AV -> St -> Prop} {Kp : AV -> St -> Prop} (h : K' (.bool (decide (a <= n /\ n <= b))) U) : af K 122 [.int .i64 a, .int .i64 b, .int .i64 n] U (ar K' Kp) := (mQ a b n).go h
theorem ow {l : List Nd} {p : Int} (h : gu l ≠ 0) : eu l p = gu l := by unfold eu; rw [if_pos h]
theorem xH {l : List Nd} {p : Int} (h : gu l = 0) (hp : ¬ (0 <= p /\ p <= (l.length : Int) - 1)) : eu l p = 3 := by unfold eu; rw [if_neg (by simp [h]), if_pos (by omega)]
theorem zR {l : List Nd} {p : Int} (h : gu l = 0) (hp : 0 <= p /\ p <= (l.length : Int) - 1) : eu l p = 0 := by unfold eu; rw [if_neg (by simp [h]), if_neg (by omega)]
def BP (R : cB -> St -> Prop) (z : AV) : cB -> St -> Prop := fun r U => ∃ x e, r = .ret (.aO [x, .int .i64 e]) /\ (e ≠ 0 -> R (.ret (.aO [z, .int .i64 e])) U) /\ (e = 0 -> R (.ret (.aO [x, .int .i64 0])) U)
section
variable {U : St} {R : cB -> St -> Prop} {v : AV} {l : List Nd} {p : Int} {g : FuncId} {fs cs : List AV}
theorem Ee (hg : dz K.P g = true) {a : List AV} {K' : AV -> St -> Prop} {Kp : AV -> St -> Prop} : (fM K.P (.func (.func g) fs cs) a).wp K U K' Kp = af K g (fs ++ a ++ cs) U (ar K' Kp) := by
 simp only [fM, hg, if_true, iM]
theorem z7 {z : AV} {ae : St} {a : List AV} (h : af K g a ae (BP R z)) :
 af K g a ae (ar (fun ct U => (aT ct 0).wp K U (fun v30 U => (aT ct 1).wp K U (fun v31 U => (ak .neq (BT.mk false false false none false) true v31 (AV.int .i64 0)).wp K U (fun dF U =>
  al dF (aj R (AV.aO [z, v31]) U) (aj R (AV.aO [v30, (AV.int .i64 0)]) U)) (aa R)) (aa R)) (aa R)) (aa R)) := by
 refine h.mono fun r τ hr => ?_
 obtain ⟨x, e, rfl, h1, h2⟩ := hr
 simp only [bu, bK, List.drop, bB, bS, ai]
 by_cases he : e = 0
 · simp only [he, bM, bU]
   exact cO (aj.mk (h2 he))
 · simp only [he, bZ, cZ]
   exact cu (aj.mk (h1 he))
theorem Wh (hv : Sl v l) (hl : l.length <= 10000) (fN : ∀ x ∈ l, x.text.length <= 3000) (hg : dz K.P g = true)
 (h0 : eu l p ≠ 0 -> ∀ ae, cH U ae -> R (.ret (.aO [.ax, .int .i64 (eu l p)])) ae)
 (h1 : eu l p = 0 -> ∀ ae, cH U ae -> af K g (fs ++ [.agg [v]] ++ cs) ae (BP R .ax)) : af K 78 [.agg [v], .int .i64 p, .func (.func g) fs cs] U R := by
 refine OF ?_
 unfold QG
 rw [dO rfl]
 intro b1 dK
 have m1 : (U.new b1 (.box (aA (.agg [v])))).box b1 = some [v] := aN
 have e1 := bH dK (x := .box (aA (.agg [v])))
 generalize U.new b1 _ = bT at *
 refine gr m1 ((th hv.s hv.c hl fN).go ?_)
 rw [bS, ai]
 by_cases hc : gu l = 0
 rotate_left
 · simp only [hc, bZ, cZ]
   refine cu (aj.mk ?_)
   rw [<- ow (p := p) hc]
   exact h0 (by rw [ow hc]; exact hc) _ e1
 simp only [hc, bM, bU]
 refine cO (uk (et m1 rfl ?_))
 rw [hv.s.len, ai, dH, dp, wp_cond, ai]
 refine ⟨aX (by omega) (by omega), yl ?_⟩
 simp only [cJ, ai]
 by_cases hp : 0 <= p /\ p <= (l.length : Int) - 1
 rotate_left
 · simp only [hp, bZ, cZ]
   refine cu (aj.mk ?_)
   have := xH hc hp
   rw [<- this]
   exact h0 (by rw [this]; decide) _ e1
 simp only [hp, and_self, bM, bU]
 refine cO (gr m1 (oZ [v] rfl ?_))
 rw [Ee hg]
 exact z7 (h1 (zR hc hp) _ e1)
theorem Wi (hv : Sl v l) (hl : l.length <= 10000) (fN : ∀ x ∈ l, x.text.length <= 3000) (hg : dz K.P g = true)
 (h0 : eu l p ≠ 0 -> ∀ ae, cH U ae -> R (.ret (.aO [.int .i64 0, .int .i64 (eu l p)])) ae)
 (h1 : eu l p = 0 -> ∀ ae, cH U ae -> af K g (fs ++ [.agg [v]] ++ cs) ae (BP R (.int .i64 0))) : af K 82 [.agg [v], .int .i64 p, .func (.func g) fs cs] U R := by
 refine OJ ?_
 unfold QK
 rw [dO rfl]
 intro b1 dK
 have m1 : (U.new b1 (.box (aA (.agg [v])))).box b1 = some [v] := aN
 have e1 := bH dK (x := .box (aA (.agg [v])))
 generalize U.new b1 _ = bT at *
 refine gr m1 ((th hv.s hv.c hl fN).go ?_)
 rw [bS, ai]
 by_cases hc : gu l = 0
 rotate_left
 · simp only [hc, bZ, cZ]
   refine cu (aj.mk ?_)
   rw [<- ow (p := p) hc]
   exact h0 (by rw [ow hc]; exact hc) _ e1
 simp only [hc, bM, bU]
 refine cO (uk (et m1 rfl ?_))
 rw [hv.s.len, ai, dH, dp, wp_cond, ai]
 refine ⟨aX (by omega) (by omega), yl ?_⟩
 simp only [cJ, ai]
 by_cases hp : 0 <= p /\ p <= (l.length : Int) - 1
 rotate_left
 · simp only [hp, bZ, cZ]
   refine cu (aj.mk ?_)
   have := xH hc hp
   rw [<- this]
   exact h0 (by rw [this]; decide) _ e1
 simp only [hp, and_self, bM, bU]
 refine cO (gr m1 (oZ [v] rfl ?_))
 rw [Ee hg]
 exact z7 (h1 (zR hc hp) _ e1)
theorem Wj (hv : Sl v l) (hl : l.length <= 10000) (fN : ∀ x ∈ l, x.text.length <= 3000) (hg : dz K.P g = true)
 (h0 : eu l p ≠ 0 -> ∀ ae, cH U ae -> R (.ret (.aO [.ax, .int .i64 (eu l p)])) ae)
 (h1 : eu l p = 0 -> ∀ ae, cH U ae -> af K g (fs ++ [.agg [v]] ++ cs) ae (BP R .ax)) : af K 91 [.agg [v], .int .i64 p, .func (.func g) fs cs] U R := by
 refine OO ?_
 unfold QP
 rw [dO rfl]
 intro b1 dK
 have m1 : (U.new b1 (.box (aA (.agg [v])))).box b1 = some [v] := aN
 have e1 := bH dK (x := .box (aA (.agg [v])))
 generalize U.new b1 _ = bT at *
 refine gr m1 ((th hv.s hv.c hl fN).go ?_)
 rw [bS, ai]
 by_cases hc : gu l = 0
 rotate_left
 · simp only [hc, bZ, cZ]
   refine cu (aj.mk ?_)
   rw [<- ow (p := p) hc]
   exact h0 (by rw [ow hc]; exact hc) _ e1
 simp only [hc, bM, bU]
 refine cO (uk (et m1 rfl ?_))
 rw [hv.s.len, ai, dH, dp, wp_cond, ai]
 refine ⟨aX (by omega) (by omega), yl ?_⟩
 simp only [cJ, ai]
 by_cases hp : 0 <= p /\ p <= (l.length : Int) - 1
 rotate_left
 · simp only [hp, bZ, cZ]
   refine cu (aj.mk ?_)
   have := xH hc hp
   rw [<- this]
   exact h0 (by rw [this]; decide) _ e1
 simp only [hp, and_self, bM, bU]
 refine cO (gr m1 (oZ [v] rfl ?_))
 rw [Ee hg]
 exact z7 (h1 (zR hc hp) _ e1)
end
theorem Gr {v : AV} {l : List Nd} {n : Nat} {en : Int} {bn be bt : Nat} {U : St} {R : cB -> St -> Prop} (hv : dX v l.length (cF l)) (hn : n < l.length) (hl : l.length <= 10000) (PC : en <= l.length) (dE : ∀ (i : Nat) (x : Nd), l[i]? = some x -> x.size <= 100000)
 (mn : U.box bn = some [.int .i64 (n : Nat)]) (me : U.box be = some [.int .i64 en]) (mt : U.box bt = some [v])
 (h : ∀ ae v', fm (br ⟨.e, 0⟩) ae v' 3 1 (ff l en l.length (n + 1)).length (dB (ff l en l.length (n + 1))) -> R (.ret v') ae) : af K 80 [.func (.func 155) [] [.box bn 0, .box be 0, .box bt 0]] U R := by
 refine OH ?_
 unfold QI
 refine KV ?_
 unfold KU
 rw [dO rfl]
 intro b2 ij
 have m2 : (U.new b2 (.box (aA .ax))).box b2 = some [.ax] := aN
 have IG := ij.cD mn
 have heb := ij.cD me
 have htb := ij.cD mt
 have mn := (bH ij (x := .box (aA .ax))).bL mn
 have me := (bH ij (x := .box (aA .ax))).bL me
 have mt := (bH ij (x := .box (aA .ax))).bL mt
 generalize U.new b2 (.box (aA .ax)) = bT at *
 refine tZ (fun ks ae => (ae.box bn = some [.int .i64 (n : Nat)] /\ ae.box be = some [.int .i64 en] /\ ae.box bt = some [v]) /\ ∃ vk, ae.box b2 = some [vk] /\ fm (br ⟨.e, 0⟩) ae vk 3 1 ks.length (dB ks)) (fun _ => False) hv hn (by omega) PC
  (fun ks ae hI => hI.1) (fun ks ae o L L' hI ho => ?_) (fun ks ae o L hI ho => ?_) (fun ae o L L' hJ ho => hJ) (fun ks fO y ae o L1 q hI hy aJ mY Zh sC rP hL U1 Zo => ?_) (fun ks ae o L gM hI hL => ?_) (fun ae o L hJ hL => hJ.elim) ⟨⟨mn, me, mt⟩, _, m2, fm.nil (yF _)⟩
 · obtain ⟨⟨h1, h2, h3⟩, vk, jM, ma⟩ := hI
   exact ⟨⟨by rw [aY (bX h1 ho)]; exact h1, by rw [aY (bX h2 ho)]; exact h2, by rw [aY (bX h3 ho)]; exact h3⟩, vk, by rw [aY (bX jM ho)]; exact jM, ma.loop ho (yF _)⟩
 · obtain ⟨⟨h1, h2, h3⟩, vk, jM, ma⟩ := hI
   have e := bH ho (x := .loop L)
   exact ⟨⟨e.bL h1, e.bL h2, e.bL h3⟩, vk, e.bL jM, ma.mono e⟩
 · obtain ⟨⟨h1, h2, h3⟩, vk, jM, ma⟩ := hI
   refine et jM rfl ?_
   refine HH rfl rfl ?_
   refine zI ma (m := 1) (l2 := [.int .i64 (fO : Nat)]) rfl rfl (by omega) (by omega) fun bR v' g2 k2 => ?_
   have lf : ∀ b z, ae.box b = some z -> bR.box b = some z := fun b z hb => by
    cases uz : ae.live b with
    | none => exact absurd uz (dR hb)
    | some w =>
      have := k2 b w (fun n' l' qY => by
       rcases ma.g with ⟨_, _, h3⟩ | ⟨τ, r1, r2, _⟩
       · rw [h3] at qY; cases qY
       · rw [r1] at qY; cases qY; exact fe hb r2 rfl) uz
      rw [fW (this.trans uz.symm)]; exact hb
   have pe := lf _ _ jM
   have nD : v'.cS = true /\ aA v' = [v'] := by
    rcases g2.g with ⟨h0, _, _⟩ | ⟨τ, r1, _, _⟩
    · omega
    · rw [r1]; exact ⟨rfl, rfl⟩
   rw [dD pe]
   refine ⟨⟨nD.1, by rw [nD.2]; rfl, by simp⟩, ?_⟩
   refine U1 _ ⟨⟨?_, ?_, ?_⟩, v', ?_, ?_⟩ (dE _ _ hy) ?_
   · rw [aY IG]; exact lf _ _ h1
   · rw [aY heb]; exact lf _ _ h2
   · rw [aY htb]; exact lf _ _ h3
   · rw [bo, nD.2]; rfl
   · have : fm (br ⟨.e, 0⟩) (bR.set b2 (.box (aH [vk] 0 (aA v')))) v' 3 1 (ks.length + 1) (dB ks ++ [.int .i64 (fO : Nat)]) := by
      refine ⟨?_, g2.z, g2.t, yF _⟩
      rcases g2.g with g | ⟨τ, r1, r2, r3⟩
      · exact .inl g
      · exact .inr ⟨τ, r1, by rw [ib (fe pe r2).symm]; exact r2, r3⟩
     simpa [dB] using this
   · obtain ⟨_, kl⟩ := u9 ma.g k2
     rw [fA]; exact kl hL
     rw [eM, if_neg (bX pe (kl hL)).symm]
 · obtain ⟨⟨h1, h2, h3⟩, vk, jM, ma⟩ := hI
   have pe : (ae.del o).box b2 = some [vk] := by rw [hX (bX jM hL)]; exact jM
   refine et pe rfl (aj.mk ?_)
   refine aj.mk (h _ _ ?_)
   rw [<- gM]
   refine ⟨?_, ma.z, ma.t, yF _⟩
   rcases ma.g with g | ⟨τ, r1, r2, r3⟩
   · exact .inl g
   · exact .inr ⟨τ, r1, by rw [HB (r9 r2 hL)]; exact r2, r3⟩
end Go.Rip
namespace Go.Rip
open Go.Proofs Go.RowKit
section
variable {v : AV} {l : List Nd}
theorem Jd (hv : Sl v l) (hl : l.length <= 10000) (fN : ∀ x ∈ l, x.text.length <= 3000) (p : Int) : Pure K 35 [.agg [v], .int .i64 p] (.aO [lh (lS l p), .int .i64 (eu l p)]) := by
 refine Pure.FQ (by simp [bG, hv.cl, show closed (.int .i64 p) = true from rfl]) (by simp [closed, bG, uX]) fun R hR => ?_
 refine Og ?_
 unfold Qi
 rw [dO rfl]
 intro b1 dK
 have m1 : ((br ⟨.e, 0⟩).new b1 (.box (aA (.agg [v])))).box b1 = some [v] := aN
 generalize (br _).new b1 _ = aE at *
 rw [dO rfl]
 intro b2 ij
 have m2 : (aE.new b2 (.box (aA (.int .i64 p)))).box b2 = some [.int .i64 p] := aN
 have m1 := (bH ij (x := .box (aA (.int .i64 p)))).bL m1
 generalize aE.new b2 _ = bT at *
 refine gr m1 (et m2 rfl ?_)
 have fin : ∀ (x : AV) (e : Int) (ae : St), (∀ τ, resolve 4 τ x = lh (lS l p)) -> e = eu l p -> ar (fun v9 U => (aT v9 0).wp K U (fun v10 U => (aT v9 1).wp K U (fun v11 U => aj R (AV.aO [v10, v11]) U) (aa R)) (aa R)) (aa R) (.ret (.aO [x, .int .i64 e])) ae := by
  intro x e ae hx he
  simp only [bu, bK, List.drop, bB]
  refine aj.mk (hR _ _ ?_)
  subst he
  show AV.aO [resolve 4 ae x, _] = _
  rw [hx]; rfl
 refine Wh (fs := []) (cs := [.box b2 0]) hv hl fN (by kernel_rfl) (fun ha bR e2 => ?_) (fun ha bR e2 => ?_)
 · refine fin _ _ _ (fun τ => ?_) rfl
   have : lS l p = [] := by unfold lS; rw [if_neg ha]
   rw [this]; rfl
 have m2 := e2.bL m2
 show af K 79 [.agg [v], .box b2 0] bR _
 refine OG ?_
 unfold QH
 rw [dO rfl]
 intro b3 gY
 have m3 : (bR.new b3 (.box (aA (.agg [v])))).box b3 = some [v] := aN
 have m2 := (bH gY (x := .box (aA (.agg [v])))).bL m2
 generalize bR.new b3 _ = c8 at *
 refine gr m3 (et m2 rfl ?_)
 obtain ⟨n, t, s, rfl, rfl, h1, h2, h3, hs⟩ := nv ha
 obtain ⟨x, hx, _, xf, _⟩ := hs.kB
 have hle := hs.le
 refine xS hv.s hx (aX (by omega) (by omega)) fun bn be bt dq d1 d2 d3 f1 f2 f3 q1 q2 q3 e4 => ?_
 rw [bu]
 refine Gr hv.s h3 hl (by omega) (fun i y hy => by have := tn.2.2 i y hy; omega) q1 q2 q3 fun eh v5 g5 => ?_
 rw [bu]
 have hk : lS t.flat n = ff t.flat ((n : Int) + x.size) t.flat.length (n + 1) := by
  unfold lS y9; rw [if_pos ha, dC, nI hx, show (x.size.toNat : Int) = x.size by omega]
 rw [<- hk] at g5
 refine aj.mk ⟨v5, 0, rfl, fun h => absurd rfl h, fun _ => fin _ _ _ (fun τ => g5.ints _ _) ha.symm⟩
theorem VH {U : St} {R : cB -> St -> Prop} {p : Nat} (hv : dX v l.length (cF l)) (hs : pZ l) (hl : l.length <= 10000) (h0 : 0 < p) (hp : p < l.length) (h : ∀ ae, cH U ae -> R (.ret (.int .i64 (rB l p (p - 1) : Nat))) ae) : af K 85 [.agg [v], .int .i64 (p : Nat)] U R := by
 refine OL ?_
 unfold QM
 rw [dO rfl]
 intro b2 ij
 have m2 : (U.new b2 (.box (aA (.agg [v])))).box b2 = some [v] := aN
 have e2 := bH ij (x := .box (aA (.agg [v])))
 generalize U.new b2 _ = bT at *
 rw [dH, dp, wp_cond, ai]
 refine ⟨aX (by omega) (by omega), ?_⟩
 refine ⟨fun m v1 v2 v5 ae => ∃ i : Nat, m = i /\ i < p /\ v1 = .int .i64 (p : Nat) /\ v2 = .box b2 0 /\ v5 = .int .i64 (i : Nat) /\ ae = bT /\ rB l p i = rB l p (p - 1), ⟨_, p - 1, rfl, by omega, rfl, rfl, by congr 1; omega, rfl, rfl⟩, ?_⟩
 rintro m v1 v2 v5 ae ⟨i, rfl, hi, rfl, rfl, rfl, rfl, hu⟩
 obtain ⟨x, hx⟩ : ∃ x, l[m]? = some x := ⟨l[m]'(by omega), by simp [show m < l.length by omega]⟩
 have xf := hs.2.2 m x hx
 refine uk (uk (et m2 rfl ?_))
 refine si hv.Ah hx (show (cM x)[5]? = some (.int .i64 x.size) from rfl) ?_
 rw [cn]
 refine ⟨aX (by omega) (by omega), ?_⟩
 rw [eK, ai]
 have A8 := nI hx
 refine dt (fun hle => ?_) fun uB => ?_
 · have hm : m ≠ 0 := by
    rintro rfl
    have := hs.2.1
    cases l with
    | nil => simp at hx
    | cons y r =>
      simp at hx; subst hx
      simp only [jm] at this
      omega
   rw [dH, dp, wp_cond, ai]
   refine ⟨aX (by omega) (by omega), m - 1, by omega, m - 1, rfl, by omega, rfl, rfl, by congr 1; omega, rfl, ?_⟩
   rw [<- hu]
   obtain ⟨k, rfl⟩ : ∃ k, m = k + 1 := ⟨m - 1, by omega⟩
   rw [Nat.add_sub_cancel, rB, if_pos (by omega)]
 · refine aj.eq (h _ e2) ?_
   rw [<- hu]
   cases m with
   | zero => rfl
   | succ k => rw [rB, if_neg (by omega)]
theorem Sm (hv : Sl v l) (hl : l.length <= 10000) (fN : ∀ x ∈ l, x.text.length <= 3000) (p : Int) : Pure K 38 [.agg [v], .int .i64 p] (.aO [.int .i64 (oo l p).1, .int .i64 (oo l p).2]) := by
 refine Pure.of (by simp [bG, hv.cl, show closed (.int .i64 p) = true from rfl]) rfl (fun U => rfl) fun R hR => ?_
 refine Oh ?_
 unfold Qj
 rw [dO rfl]
 intro b1 dK
 have m1 : ((br ⟨.e, 0⟩).new b1 (.box (aA (.agg [v])))).box b1 = some [v] := aN
 generalize (br _).new b1 _ = aE at *
 rw [dO rfl]
 intro b2 ij
 have m2 : (aE.new b2 (.box (aA (.int .i64 p)))).box b2 = some [.int .i64 p] := aN
 have m1 := (bH ij (x := .box (aA (.int .i64 p)))).bL m1
 generalize aE.new b2 _ = bT at *
 refine gr m1 (et m2 rfl ?_)
 have fin : ∀ (x e : Int) (ae : St), ((oo l p).1 : Int) = x -> (oo l p).2 = e -> ar (fun v9 U => (aT v9 0).wp K U (fun v10 U => (aT v9 1).wp K U (fun v11 U => aj R (AV.aO [v10, v11]) U) (aa R)) (aa R)) (aa R) (.ret (.aO [.int .i64 x, .int .i64 e])) ae := by
  intro x e ae hx he
  subst hx he
  simp only [bu, bK, List.drop, bB]
  exact aj.mk (hR _)
 refine Wi (fs := []) (cs := [.box b2 0]) hv hl fN (by kernel_rfl) (fun ha bR e2 => ?_) (fun ha bR e2 => ?_)
 · have hu : oo l p = (0, eu l p) := by unfold oo; rw [if_pos ha]
   exact fin _ _ _ (by rw [hu]; rfl) (by rw [hu])
 have m2 := e2.bL m2
 show af K 84 [.agg [v], .box b2 0] bR _
 refine OK ?_
 unfold QL
 rw [dO rfl]
 intro b3 gY
 have m3 : (bR.new b3 (.box (aA (.agg [v])))).box b3 = some [v] := aN
 have m2 := (bH gY (x := .box (aA (.agg [v])))).bL m2
 generalize bR.new b3 _ = c8 at *
 refine et m2 rfl ?_
 rw [aR, ai]
 refine dt (fun h => ?_) fun h => ?_
 · have hu : oo l p = (0, 7) := by unfold oo; rw [if_neg (by simp [ha]), if_pos h]
   refine aj.mk ⟨_, _, rfl, fun _ => fin _ _ _ (by rw [hu]; rfl) (by rw [hu]), fun h => by cases h⟩
 · have hu : oo l p = (rB l p.toNat (p.toNat - 1), 0) := by unfold oo; rw [if_neg (by simp [ha]), if_neg h]
   refine gr m3 (et m2 rfl ?_)
   obtain ⟨n, t, s, rfl, rfl, h1, h2, h3, hs⟩ := nv ha
   refine VH hv.s tn hl (by omega) h3 fun dq e4 => ?_
   rw [bu]
   rw [dC] at hu
   refine aj.mk ⟨_, _, rfl, fun h => absurd rfl h, fun _ => fin _ _ _ (by rw [hu]) (by rw [hu])⟩
theorem M7 {U : St} {R : cB -> St -> Prop} {c : iW} (h0 : l ≠ []) (hl : l.length <= 100000) (h : ∀ ae b, cH U ae -> U.live b = none -> ae.box b = some (cF l) -> R (.ret (.ms b 0 l.length 6 43)) ae) : af K 89 [.vec l.length c (cF l)] U R := by
 refine OM ?_
 unfold QN
 rw [show ak .eql (BT.mk false false false none true) true (.vec l.length c (cF l)) .ax = .val (.bool false) from rfl, ai]
 refine cO ?_
 rw [BE]
 refine ⟨by omega, ?_⟩
 rw [F9]
 refine ⟨rfl, fun b hb => ?_⟩
 have CN : (U.new b (.box (bN 0 [AV.int .u8 0, AV.str [], AV.int .i64 0, AV.int .i64 0, AV.int .i64 0, AV.int .i64 0]))).box b = some [] := aN
 refine MM CN rfl ⟨mI l ▸ by omega, by simp, by omega⟩ fun b' dA => ?_
 rw [cq]
 have e1 := (bH hb (x := .box (bN 0 [AV.int .u8 0, AV.str [], AV.int .i64 0, AV.int .i64 0, AV.int .i64 0, AV.int .i64 0]))).del (b := b) hb.1
 exact aj.mk (h _ b' (e1.new dA) (e1.fresh dA.1) (by rw [aN]; rfl))
theorem OY (hv : Sl v l) (hl : l.length <= 10000) (fN : ∀ x ∈ l, x.text.length <= 3000) (p : Int) : Pure K 44 [.agg [v], .int .i64 p] (.aO [qu (lH l p), .int .i64 (eu l p)]) := by
 refine Pure.FQ (by simp [bG, hv.cl, show closed (.int .i64 p) = true from rfl]) (by simp [closed, bG, rJ]) fun R hR => ?_
 refine Ok ?_
 unfold Qm
 rw [dO rfl]
 intro b1 dK
 have m1 : ((br ⟨.e, 0⟩).new b1 (.box (aA (.agg [v])))).box b1 = some [v] := aN
 generalize (br _).new b1 _ = aE at *
 rw [dO rfl]
 intro b2 ij
 have m2 : (aE.new b2 (.box (aA (.int .i64 p)))).box b2 = some [.int .i64 p] := aN
 have m1 := (bH ij (x := .box (aA (.int .i64 p)))).bL m1
 generalize aE.new b2 _ = bT at *
 refine gr m1 (et m2 rfl ?_)
 have fin : ∀ (x : AV) (e : Int) (ae : St), resolve 4 ae x = qu (lH l p) -> e = eu l p -> ar (fun v9 U => (aT v9 0).wp K U (fun v10 U => (aT v9 1).wp K U (fun v11 U => aj R (AV.aO [v10, v11]) U) (aa R)) (aa R)) (aa R) (.ret (.aO [x, .int .i64 e])) ae := by
  intro x e ae hx he
  simp only [bu, bK, List.drop, bB]
  refine aj.mk (hR _ _ ?_)
  subst he
  show AV.aO [resolve 4 ae x, _] = _
  rw [hx]; rfl
 refine Wj (fs := []) (cs := [.box b2 0]) hv hl fN (by kernel_rfl) (fun ha bR e2 => ?_) (fun ha bR e2 => ?_)
 · refine fin _ _ _ ?_ rfl
   have : lH l p = [] := by unfold lH; rw [if_neg ha]
   rw [this]; rfl
 have m2 := e2.bL m2
 show af K 92 [.agg [v], .box b2 0] bR _
 refine OP ?_
 unfold QR
 rw [dO rfl]
 intro b3 gY
 have m3 : (bR.new b3 (.box (aA (.agg [v])))).box b3 = some [v] := aN
 have m2 := (bH gY (x := .box (aA (.agg [v])))).bL m2
 generalize bR.new b3 _ = c8 at *
 refine iD (iD (dr m3 rfl (dr m2 rfl (dr m2 rfl (iD (iD (dr m3 rfl (dr m2 rfl ?_))))))))
 obtain ⟨n, t, s, rfl, rfl, h1, h2, h3, hs⟩ := nv ha
 obtain ⟨x, hx, _, xf, _⟩ := hs.kB
 have hle := hs.le
 refine vK hv.s hx fun r => ?_
 simp only [cQ, au, cM, jb, List.drop, kJ, eQ]
 rw [tU]
 refine ⟨aX (by omega) (by omega), ?_⟩
 have cm : t.flat ≠ [] := fun e => by rw [e] at h3; simp at h3
 have hb : ((n : Int) + x.size) = ((n + s.flat.length : Nat) : Int) := by omega
 rw [hb]
 refine F1 (a := n) (b := n + s.flat.length) hv.s cm (by omega) hle (fo _ _ _) (fo _ _ _) fun c => ?_
 have ju : lH t.flat n = ((t.flat.take (n + s.flat.length)).drop n) := by
  unfold lH
  rw [if_pos ha, dC, nI hx, List.drop_take]
  congr 1; omega
 have mY := s.dh
 rw [<- ju]
 have hlen : (lH t.flat n).length = s.flat.length := by rw [ju]; simp; omega
 have xe : lH t.flat n ≠ [] := fun e => by rw [e] at hlen; simp at hlen; omega
 refine M7 xe (by omega) fun dq b4 e4 f4 m4 => ?_
 rw [bu]
 refine ⟨fun b' dA => ?_, aj.mk ⟨_, _, rfl, fun h => absurd rfl h, fun _ => fin _ _ _ ?_ ha.symm⟩⟩
 · simp only [cT, ja, jc, fH, eA, List.not_mem_nil, or_false] at dA
   cases hl : c8.live b' with
   | some y => rw [e4 _ _ hl]
   | none =>
     rcases dA with rfl | rfl | rfl | rfl | rfl
     all_goals first | exact absurd hl (dR m2) | exact absurd hl (dR m3)
 · rw [xu m4 xe]
end
end Go.Rip
namespace Go.Rip
open Go.Proofs Go.RowKit
theorem JR (ks : List Nat) (hl : ks.length <= 100000) : Pure K 46 [lh ks, lh ks] (.bool true) := by
 intro U R hR
 refine Om ?_
 unfold Qo
 have hlen : bw (some false) (lh ks) = .val (.int .i64 ks.length) := (Dh ks).len
 rw [hlen, ai, ai, bS, ai, decide_eq_true rfl]
 refine cO ?_
 refine ⟨fun m v0 v1 v5 ae => ∃ i : Nat, m = ks.length - i /\ i <= ks.length /\ v0 = lh ks /\ v1 = lh ks /\ v5 = .int .i64 (i : Nat) /\ ae = U, ⟨_, 0, rfl, by omega, rfl, rfl, rfl, rfl⟩, ?_⟩
 rintro m v0 v1 v5 ae ⟨i, rfl, hi, rfl, rfl, rfl, rfl⟩
 rw [hlen, ai, bj, ai]
 refine dt (fun aJ => ?_) fun gn => aj.mk hR
 have aJ : i < ks.length := by omega
 have hx : ks[i]? = some ks[i] := by simp [aJ]
 obtain ⟨c, hv, k9⟩ := (Dh ks).at (sz := 1) (e := 3) aJ
 obtain ⟨r, hr⟩ := qp hx
 rw [k9, Nat.mul_one, hr]
 refine ⟨⟨by omega, by omega⟩, ?_⟩
 rw [au, kJ, eQ]
 refine ⟨⟨by omega, by omega⟩, ?_⟩
 rw [au, kJ, eQ, bS, au, decide_eq_true rfl]
 refine cO ?_
 rw [cn]
 exact ⟨aX (by omega) (by omega), ks.length - (i + 1), by omega, i + 1, rfl, by omega, rfl, rfl, by simp, rfl⟩
theorem RC {l : List Nd} {p : Nat} : (y9 l p).length <= l.length := tG _ _ _ _
theorem NN {l : List Nd} {p : Int} : (lS l p).length <= l.length := by
 unfold lS; split
 · exact RC
 · simp
theorem Se {l : List Nd} {p : Int} : (lH l p).length <= l.length := by
 unfold lH; split
 · simp; omega
 · simp
theorem Ev {v : AV} {l : List Nd} (hv : Sl v l) (p : Int) : Pure K 12 [.agg [v], .int .i64 p] (.bool true) := by
 refine Pure.of (by simp [bG, hv.cl, show closed (.int .i64 p) = true from rfl]) rfl (fun U => rfl) fun R hR => ?_
 refine Oa ?_
 unfold Qc
 rw [dO rfl]
 intro b1 dK
 have m1 : ((br ⟨.e, 0⟩).new b1 (.box (aA (.agg [v])))).box b1 = some [v] := aN
 generalize (br _).new b1 _ = aE at *
 refine gr m1 ((MA hv).go ?_)
 simp only [cJ, ai]
 cases ht : oU l with
 | false => exact cu (yr.go (aj.mk (hR _)))
 | true =>
   obtain ⟨hl, fN⟩ := vU.1 ht
   have fN : ∀ x ∈ l, x.text.length <= 3000 := fun x hx => by have := fN x hx; omega
   have cl := HY hv (by omega)
   have cv := wy l
   refine cO (gr m1 (cl.go ((Jd cv (by omega) fN p).go ?_)))
   simp only [bK, List.drop, bB]
   refine gr m1 ((Hr hv (by omega) fN p).go ?_)
   simp only [bK, List.drop, bB]
   refine gr m1 (cl.go ((Sm cv (by omega) fN p).go ?_))
   simp only [bK, List.drop, bB]
   refine gr m1 ((N7 hv (by omega) fN p).go ?_)
   simp only [bK, List.drop, bB]
   refine gr m1 (cl.go ((OY cv (by omega) fN p).go ?_))
   simp only [bK, List.drop, bB]
   refine gr m1 ((JP hv (by omega) fN p).go ?_)
   simp only [bK, List.drop, bB]
   have hk := NN (l := l) (p := p)
   have hs := Se (l := l) (p := p)
   rw [aR, ai, decide_eq_true rfl]
   simp only [aI, du, aB, bl, au]
   refine ir (JR _ (by omega)) ?_
   simp only [ay, if_true, ai, aI, du, aB, bl, au, aR, bM]
   refine ir (fun U R hR => R7 (wy _).s.Ah (wy _).s.Ah (by omega) (by omega) (by simpa using hR)) ?_
   simp only [ay, if_true, ai, aI, du, aB, bl, au, aR, bM]
   refine ir yr ?_
   exact aj.mk (hR _)
end Go.Rip
