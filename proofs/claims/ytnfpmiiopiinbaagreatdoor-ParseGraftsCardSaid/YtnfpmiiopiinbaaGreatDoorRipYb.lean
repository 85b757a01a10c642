/- Lemmas for the proof: no conditions. -/
import Derived.Test.YtnfpmiiopiinbaaGreatDoorRipZz
import Derived.Test.YtnfpmiiopiinbaaGreatDoorRipQ
import Derived.Test.YtnfpmiiopiinbaaGreatDoorRipF
import Derived.Test.YtnfpmiiopiinbaaGreatDoorRipYa
import Derived.Test.YtnfpmiiopiinbaaGreatDoorRipW
import Derived.Test.YtnfpmiiopiinbaaGreatDoorRipV
import Derived.Test.YtnfpmiiopiinbaaGreatDoorRipG
set_option linter.unusedVariables false
set_option linter.unusedSimpArgs false
set_option linter.loopingSimpArgs false
namespace Go.Rip
open Go.Proofs Go.RowKit
theorem tZ : ∀ l : List Nd, bV (bC l) = true := fun l => by
 induction l with
 | nil => rfl
 | cons x l ih => show bV (bO x ++ bC l) = true; simp [bO, bV, closed, ih]
theorem pq (l : List Nd) : closed (fx l) = true := by
 unfold fx; split
 · rfl
 · exact tZ l
theorem sM (n : Nat) (U : St) (l : List Nd) : (bC l).map (resolve (n + 1) U) = bC l := by
 induction l with
 | nil => rfl
 | cons x l ih =>
   show ((bO x ++ bC l).map (resolve (n + 1) U)) = bO x ++ bC l
   rw [List.map_append, ih]; rfl
end Go.Rip
namespace Go.Rip
open Go.Proofs Go.RowKit
structure Sl (v : AV) (l : List Nd) : Prop where
 s : eh v l.length (bC l)
 c : closed v = true
theorem AS (l : List Nd) : Sl (fx l) l := by
 refine ⟨?_, pq l⟩
 unfold fx
 split
 · rename_i h; subst h; exact .inl ⟨rfl, rfl, rfl⟩
 · exact .inr ⟨_, rfl⟩
theorem Sl.fX {v : AV} {l : List Nd} (h : Sl v l) (U : St) : gU U v l := h.s.yz
theorem Sl.cl {v : AV} {l : List Nd} (h : Sl v l) : closed (.agg [v]) = true := by simp [closed, bV, h.c]
theorem pW {b o k : Nat} {U : St} {K' : AV -> St -> Prop} {Kp : AV -> St -> Prop} (h : K' (.box b (o + k)) U) : (ag (some k) (.box b o)).wp K U K' Kp := h
theorem lJ {b : Nat} {v : AV} {U τ : St} {K' : AV -> St -> Prop} {Kp : AV -> St -> Prop} (hb : U.box b = some [v]) (h : K' (.agg [v]) τ) : (ao (some (true, 1)) (.box b 0) U).wp K τ K' Kp := by
 rw [qq hb]; exact ⟨by simp, h⟩
def oL (l : List Nd) : Bool := decide (l.length <= 1000) && l.all fun x => decide (x.text.length <= 100)
theorem sh {l : List Nd} : oL l = true ↔ l.length <= 1000 /\ ∀ x ∈ l, x.text.length <= 100 := by simp [oL]
theorem tI {v : AV} {l : List Nd} (hv : eh v l.length (bC l)) : Pure K 49 [v] (.bool (oL l)) := by
 intro U R hR
 refine Pd ?_
 unfold QX
 rw [hv.len, ah]
 refine rv (dk (fun h => ?_) fun h => ?_)
 · refine ak.eq hR ?_
   have : oL l = false := by unfold oL; rw [decide_eq_false (by omega)]; rfl
   rw [this]
 refine ⟨fun m v0 v3 ae => ∃ i : Nat, m = l.length - i /\ i <= l.length /\ v0 = v /\ v3 = .int .i64 (i : Nat) /\ ae = U /\ ∀ j x, j < i -> l[j]? = some x -> x.text.length <= 100, ⟨_, 0, rfl, by omega, rfl, rfl, rfl, fun j x h => by omega⟩, ?_⟩
 rintro m v0 v3 ae ⟨i, rfl, hi, rfl, rfl, rfl, bm⟩
 have hlen : bz (some false) v0 = .val (.int .i64 l.length) := hv.len
 rw [hlen, ah, bg, ah]
 refine dk (fun aJ => ?_) fun fJ => ?_
 · have aJ : i < l.length := by omega
   obtain ⟨x, hx⟩ : ∃ x, l[i]? = some x := ⟨l[i], by simp [aJ]⟩
   refine sW hv.yz hx (show (bO x)[1]? = some (.str x.text) from rfl) ?_
   show ((au.val (.int .i64 x.text.length)).wp K _ _ _)
   rw [ah]
   refine rv (dk (fun h => ?_) fun h => ?_)
   · refine ak.eq hR ?_
     have : oL l = false := by
      cases ht : oL l with
      | false => rfl
      | true => have := (sh.1 ht).2 x (fO hx); omega
     rw [this]
   · rw [cg]
     refine ⟨aS (by omega) (by omega), l.length - (i + 1), by omega, i + 1, rfl, by omega, rfl, by simp, rfl, fun j y hj hy => ?_⟩
     by_cases qR : j = i
     · subst qR; rw [hx] at hy; cases hy; omega
     · exact bm j y (by omega) hy
 · refine ak.eq hR ?_
   have : oL l = true := sh.2 ⟨by omega, fun x hx => by
    obtain ⟨j, hj, rfl⟩ := List.getElem_of_mem hx
    exact bm j _ (by omega) (by simp [hj])⟩
   rw [this]
theorem Nr {v : AV} {l : List Nd} (hv : Sl v l) : Pure K 24 [.agg [v]] (.bool (oL l)) := by
 refine Pure.of (by simp [bV, hv.cl]) rfl (fun U => rfl) fun R hR => ?_
 refine O7 ?_
 unfold QR
 rw [ff rfl]
 intro b1 eH
 have m1 : ((bD ⟨.e, 0⟩).new b1 (.box (ay (.agg [v])))).box b1 = some [v] := aN
 generalize (bD _).new b1 _ = aG at *
 refine pW (eP m1 rfl ((tI hv.s).go ?_))
 exact ak.mk (hR _)
theorem EV {mu : Bool} {e sz m : Nat} {y : AV} {l2 : List AV} {U : St} {K' : AV -> St -> Prop} {Kp : AV -> St -> Prop} (hy : pc U y = some (m, l2)) (hl : l2.length = m * sz) (hb : m <= 4294967296)
 (h0 : m = 0 -> K' .al U) (h1 : m ≠ 0 -> mu = true -> ∀ b, U.cY b -> K' (.ms b 0 m sz e) (U.new b (.box l2))) (h2 : m ≠ 0 -> mu = false -> ∀ b, U.cY b -> K' (.vec m (.own b) l2) (U.new b (.tok ⟨m, e, sz⟩))) : (dM (some (e, sz)) mu .al y U).wp K U K' Kp := by
 simp only [dM, hy, wp_cond]
 refine ⟨hl, ?_⟩
 by_cases hm : m = 0
 · rw [if_pos hm, ah]; exact h0 hm
 · rw [if_neg hm, wp_cond]
   refine ⟨hb, ?_⟩
   cases mu with
   | true => exact fun b dm => h1 hm rfl b dm
   | false => exact fun b dm => h2 hm rfl b dm
theorem yc {n b k z e : Nat} {U : St} {L : List AV} (h : U.box b = some L) : resolve (n + 1) U (.ms b 0 k z e) = .vec k .hX (L.map (resolve n U)) := by
 rw [resolve, h]; rfl
theorem yb {n b : Nat} {U : St} {l : List Nd} (h : U.box b = some (bC l)) (h0 : l ≠ []) : resolve (n + 2) U (.ms b 0 l.length 6 43) = fx l := by
 rw [yc h, sM, fx, if_neg h0]
theorem IU {v : AV} {l : List Nd} (hv : Sl v l) (hl : l.length <= 100000) : Pure K 26 [.agg [v]] (.agg [fx l]) := by
 refine Pure.QJ (by simp [bV, hv.cl]) (AS l).cl fun R hR => ?_
 refine O8 ?_
 unfold QS
 rw [ff rfl]
 intro b1 eH
 have m1 : ((bD ⟨.e, 0⟩).new b1 (.box (ay (.agg [v])))).box b1 = some [v] := aN
 generalize (bD _).new b1 _ = aG at *
 rw [cN]
 intro b2 lQ
 have m2 : (aG.new b2 (.box [AV.al])).box b2 = some [.al] := aN
 have m1 := (bE lQ (x := .box [AV.al])).bj m1
 generalize aG.new b2 (.box [AV.al]) = bJ at *
 refine pW (eP m1 rfl ?_)
 refine EV (hv.fX _).src (fo l ▸ by omega) (by omega) (fun h0 => ?_) (fun h1 _ b hb => ?_) (fun _ h => by cases h)
 · have : l = [] := oH.1 h0
   subst this
   refine oQ [.al] rfl ?_
   rw [cI m2]
   refine ⟨⟨rfl, rfl, by simp⟩, ?_⟩
   rw [lF aT]
   exact ⟨by simp [aB], ak.mk (hR _ _ rfl)⟩
 · have bW := hb.cx m2
   refine oQ [.ms b 0 l.length 6 43] rfl ?_
   rw [cI (show (bJ.new b (.box (bC l))).box b2 = some _ by rw [om bW]; exact m2)]
   refine ⟨⟨rfl, rfl, by simp⟩, ?_⟩
   rw [lF aT]
   refine ⟨by simp [aB], ak.mk (hR _ _ ?_)⟩
   have pZ : ((bJ.new b (.box (bC l))).set b2 (.box (aB [AV.al] 0 (ay (.agg [.ms b 0 l.length 6 43]))))).box b = some (bC l) := by
    rw [aP bW.symm, aN]
   generalize (bJ.new b (.box (bC l))).set b2 _ = bP at *
   show AV.agg [resolve 4 bP (.ms b 0 l.length 6 43)] = _
   have : l ≠ [] := fun e => h1 (by rw [e]; rfl)
   rw [yb pZ this]
noncomputable def gI (l : List Nd) (p : Int) : Int := if fi l ≠ 0 then fi l else if p < 0 \/ (l.length : Int) <= p then 3 else 0
theorem NW {v : AV} {l : List Nd} (hv : Sl v l) (hl : l.length <= 10000) (iW : ∀ x ∈ l, x.text.length <= 3000) (p : Int) : Pure K 65 [.agg [v], .int .i64 p] (.int .i64 (gI l p)) := by
 refine Pure.of (by simp [bV, hv.cl, show closed (.int .i64 p) = true from rfl]) rfl (fun U => rfl) fun R hR => ?_
 refine Ph ?_
 unfold Q1
 rw [ff rfl]
 intro b1 eH
 have m1 : ((bD ⟨.e, 0⟩).new b1 (.box (ay (.agg [v])))).box b1 = some [v] := aN
 generalize (bD _).new b1 _ = aG at *
 refine lJ m1 ?_
 refine F2 (hv.fX _) (by omega) (fun x hx => by have := iW x hx; omega) fun bJ e1 => ?_
 have m1 := e1.bj m1
 simp only [bA, cM, ah]
 by_cases hc : fi l = 0
 rotate_left
 · simp only [hc, ct, dt]
   refine cR (ak.mk ?_)
   have : gI l p = fi l := by unfold gI; rw [if_pos hc]
   rw [<- this]; exact hR _
 simp only [hc, bT, ca]
 refine dQ ?_
 rw [bg, ah]
 by_cases hp : p < 0
 · simp only [hp, bT, aI, show (true == false) = false from rfl, aC, a7, gA, aA, if_true, ah]
   refine cR (ak.mk ?_)
   have : gI l p = 3 := by unfold gI; rw [if_neg (by simp [hc]), if_pos (.inl hp)]
   rw [<- this]; exact hR _
 · simp only [hp, ct, aI, dG, aC, bl, av]
   refine gx (db m1 rfl ?_)
   rw [hv.s.len, av, dT, av]
   simp only [aA, bo, if_false, ah]
   refine dk (fun h => ak.mk ?_) fun h => ak.mk ?_
   · have : gI l p = 3 := by unfold gI; rw [if_neg (by simp [hc]), if_pos (.inr h)]
     rw [<- this]; exact hR _
   · have : gI l p = 0 := by unfold gI; rw [if_neg (by simp [hc]), if_neg (by omega)]
     rw [<- this]; exact hR _
theorem Bm {l : List Nd} {p : Int} (h : gI l p = 0) : ∃ (n : Nat) (t s : Tre), p = n /\ l = t.flat /\ t.kind = 1 /\ t.ok = true /\ n < l.length /\ eQ l n s := by
 unfold gI at h
 split at h
 · rename_i hc; exact absurd h hc
 · rename_i hc
   split at h
   · cases h
   · rename_i hp
     have hc : fi l = 0 := Classical.not_not.1 hc
     have h9 : ¬ 900 < l.length := fun h => by unfold fi at hc; rw [if_pos h] at hc; cases hc
     have : ∃ t : Tre, l = t.flat /\ t.kind = 1 /\ t.ok = true := Classical.not_not.1 fun h => by rw [zb h9 h] at hc; cases hc
     obtain ⟨t, rfl, h1, h2⟩ := this
     obtain ⟨⟨s, _, hs, _⟩, _⟩ := place t (i := p.toNat) (by omega)
     exact ⟨p.toNat, t, s, by omega, rfl, h1, h2, by omega, hs⟩
end Go.Rip
namespace Go.Rip
open Go.Proofs Go.RowKit
theorem Grow.gm {r : Nat} {U ae : St} {v : AV} {e sz n : Nat} {l L L' : List AV} (h : Grow U v e sz n l) (hr : U.box r = some L) (A : fg r L' U ae) : Grow ae v e sz n l := by
 rcases h with h | ⟨τ, r1, r2, r3⟩
 · exact .inl h
 · exact .inr ⟨τ, r1, A.ex.tok (ej hr r2).symm r2, r3⟩
theorem Grow.other {U ae : St} {v w : AV} {e sz n e2 WK n2 : Nat} {l l2 : List AV} (h : Grow U v e sz n l) (bW : e ≠ e2) (k : Grow U w e2 WK n2 l2) (e1 : ∀ b x, (∀ n l, w ≠ .vec n (.own b) l) -> U.live b = some x -> ae.live b = some x) : Grow ae v e sz n l := by
 rcases h with h | ⟨τ, r1, r2, r3⟩
 · exact .inl h
 · refine .inr ⟨τ, r1, ?_, r3⟩
   cases el : U.live τ with
   | none => exact absurd el (Nv r2)
   | some x =>
     have := e1 τ x (fun n' l' hv => by
      rcases k with ⟨_, _, k⟩ | ⟨rA, k, k2, _⟩
      · rw [k] at hv; cases hv
      · rw [k] at hv; cases hv
        rw [r2] at k2; cases k2; exact bW rfl) el
     rw [sO (this.trans el.symm)]; exact r2
end Go.Rip
namespace Go.Rip
open Go.Proofs Go.RowKit
theorem sd {l : List Nd} {n : Nat} {x : Nd} (h : l[n]? = some x) : bY l n = x.size.toNat := by unfold bY; rw [h]; rfl
def lI (l : List Nd) (p : Nat) : Nat -> Nat
 | 0 => 0
 | i + 1 => if i + 1 + bY l (i + 1) <= p then lI l p i else i + 1
theorem uf {t : Tre} : sY t.flat := ((se t.flat).2 ⟨t, rfl⟩).1
theorem Ka (l : List Nd) (n : Nat) : (bC l).take (n * 6) = bC (l.take n) := by
 induction l generalizing n with
 | nil => simp [bC]
 | cons x l ih =>
   cases n with
   | zero => simp [bC]
   | succ n =>
     show (bO x ++ bC l).take ((n + 1) * 6) = bO x ++ bC (l.take n)
     rw [List.take_append, <- ih]
     have : (bO x).length = 6 := rfl
     rw [this, o7 (by rw [this]; omega), show (n + 1) * 6 - 6 = n * 6 by omega]
theorem Nk {v : AV} {l : List Nd} (hv : eh v l.length (bC l)) (h0 : l ≠ []) {a b : Nat} (zo : a <= b) (hb : b <= l.length) {hi : Option AV} (U9 : dc l.length hi = some (b : Int)) {lo : Option AV} (Vi : dc 0 lo = some (a : Int)) :
 ∃ c, dx false (some (43, 6)) v lo hi = .cond (0 <= (a : Int) /\ (a : Int) <= b /\ (b : Int) <= l.length) (.val (.vec ((l.take b).drop a).length c (bC ((l.take b).drop a)))) := by
 rcases hv with ⟨h1, _, _⟩ | ⟨c, rfl⟩
 · exact absurd (oH.1 h1) h0
 · refine ⟨pn c hi, ?_⟩
   rw [sf, U9, Vi]
   simp only [dR]
   have : b - a = ((l.take b).drop a).length := by simp; omega
   rw [this, Ka, B3]
theorem AZ {v : AV} {l : List Nd} (hv : eh v l.length (bC l)) (h0 : l ≠ []) {a b : Nat} (zo : a <= b) (hb : b <= l.length) {hi lo : Option AV} (U9 : dc l.length hi = some (b : Int)) (Vi : dc 0 lo = some (a : Int)) {k : AV -> Prop}
 (h : ∀ c, k (.vec ((l.take b).drop a).length c (bC ((l.take b).drop a)))) : aw K (dx false (some (43, 6)) v lo hi) k := by
 obtain ⟨c, e⟩ := Nk hv h0 zo hb U9 Vi
 rw [e, fN, av]
 exact ⟨by omega, h c⟩
end Go.Rip
namespace Go.Rip
open Go.Proofs Go.RowKit
theorem P8 {a b n : Int} {U : St} {K' : AV -> St -> Prop} {Kp : AV -> St -> Prop} (h : K' (.bool (decide (a <= n /\ n <= b))) U) : af K 122 [.int .i64 a, .int .i64 b, .int .i64 n] U (ax K' Kp) := (nk a b n).go h
theorem CY {l : List Nd} {p : Int} (h : fi l ≠ 0) : gI l p = fi l := by unfold gI; rw [if_pos h]
theorem NU {l : List Nd} {p : Int} (h : fi l = 0) (hp : ¬ (0 <= p /\ p <= (l.length : Int) - 1)) : gI l p = 3 := by unfold gI; rw [if_neg (by simp [h]), if_pos (by omega)]
theorem RL {l : List Nd} {p : Int} (h : fi l = 0) (hp : 0 <= p /\ p <= (l.length : Int) - 1) : gI l p = 0 := by unfold gI; rw [if_neg (by simp [h]), if_neg (by omega)]
section
variable {U : St} {R : cD -> St -> Prop} {v : AV} {l : List Nd} {p : Int} {g : FuncId} {fs cs : List AV}
theorem Xe (hg : eg K.P g = true) {a : List AV} {K' : AV -> St -> Prop} {Kp : AV -> St -> Prop} : (gp K.P (.func (.func g) fs cs) a).wp K U K' Kp = af K g (fs ++ a ++ cs) U (ax K' Kp) := by
 simp only [gp, hg, if_true, jk]
end
end Go.Rip
namespace Go.Rip
open Go.Proofs Go.RowKit
section
variable {v : AV} {l : List Nd}
theorem Wc {U : St} {R : cD -> St -> Prop} {p : Nat} (hv : eh v l.length (bC l)) (hs : sY l) (hl : l.length <= 10000) (h0 : 0 < p) (hp : p < l.length) (h : ∀ ae, cL U ae -> R (.ret (.int .i64 (lI l p (p - 1) : Nat))) ae) : af K 85 [.agg [v], .int .i64 (p : Nat)] U R := by
 refine Pw ?_
 unfold Re
 rw [ff rfl]
 intro b2 lQ
 have m2 : (U.new b2 (.box (ay (.agg [v])))).box b2 = some [v] := aN
 have e2 := bE lQ (x := .box (ay (.agg [v])))
 generalize U.new b2 _ = bJ at *
 rw [dU, dC, wp_cond, ah]
 refine ⟨aS (by omega) (by omega), ?_⟩
 refine ⟨fun m v1 v2 v5 ae => ∃ i : Nat, m = i /\ i < p /\ v1 = .int .i64 (p : Nat) /\ v2 = .box b2 0 /\ v5 = .int .i64 (i : Nat) /\ ae = bJ /\ lI l p i = lI l p (p - 1), ⟨_, p - 1, rfl, by omega, rfl, rfl, by congr 1; omega, rfl, rfl⟩, ?_⟩
 rintro m v1 v2 v5 ae ⟨i, rfl, hi, rfl, rfl, rfl, rfl, hu⟩
 obtain ⟨x, hx⟩ : ∃ x, l[m]? = some x := ⟨l[m]'(by omega), by simp [show m < l.length by omega]⟩
 have BH := hs.2.2 m x hx
 refine pW (pW (eP m2 rfl ?_))
 refine sW hv.yz hx (show (bO x)[5]? = some (.int .i64 x.size) from rfl) ?_
 rw [cg]
 refine ⟨aS (by omega) (by omega), ?_⟩
 rw [fm, ah]
 have DI := sd hx
 refine dk (fun hle => ?_) fun ti => ?_
 · have hm : m ≠ 0 := by
    rintro rfl
    have := hs.2.1
    cases l with
    | nil => simp at hx
    | cons y r =>
      simp at hx; subst hx
      simp only [jT] at this
      omega
   rw [dU, dC, wp_cond, ah]
   refine ⟨aS (by omega) (by omega), m - 1, by omega, m - 1, rfl, by omega, rfl, rfl, by congr 1; omega, rfl, ?_⟩
   rw [<- hu]
   obtain ⟨k, rfl⟩ : ∃ k, m = k + 1 := ⟨m - 1, by omega⟩
   rw [Nat.add_sub_cancel, lI, if_pos (by omega)]
 · refine ak.eq (h _ e2) ?_
   rw [<- hu]
   cases m with
   | zero => rfl
   | succ k => rw [lI, if_neg (by omega)]
end
end Go.Rip
