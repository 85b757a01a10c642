/- Lemmas for the proof: no conditions. -/
import Derived.Test.YtnfpmiiopiinbaaGreatDoorRipZz
import Derived.Test.YtnfpmiiopiinbaaGreatDoorRipQ
import Derived.Test.YtnfpmiiopiinbaaGreatDoorRipF
import Derived.Test.YtnfpmiiopiinbaaGreatDoorRipYa
import Derived.Test.YtnfpmiiopiinbaaGreatDoorRipW
import Derived.Test.YtnfpmiiopiinbaaGreatDoorRipV
import Derived.Test.YtnfpmiiopiinbaaGreatDoorRipG
set_option linter.unusedVariables false
set_option linter.unusedSimpArgs false
set_option linter.loopingSimpArgs false
namespace Go.Rip
open Go.Proofs Go.RowKit
theorem yp : ∀ l : List Nd, bU (cw l) = true := fun l => by
 induction l with
 | nil => rfl
 | cons x l ih => show bU (cT x ++ cw l) = true; simp [cT, bU, closed, ih]
theorem oX (l : List Nd) : closed (gx l) = true := by
 unfold gx; split
 · rfl
 · exact yp l
theorem E6 (n : Nat) (U : St) (l : List Nd) : (cw l).map (resolve (n + 1) U) = cw l := by
 induction l with
 | nil => rfl
 | cons x l ih =>
   show ((cT x ++ cw l).map (resolve (n + 1) U)) = cT x ++ cw l
   rw [List.map_append, ih]; rfl
end Go.Rip
namespace Go.Rip
open Go.Proofs Go.RowKit
structure Sl (v : AV) (l : List Nd) : Prop where
 s : eB v l.length (cw l)
 c : closed v = true
theorem FX (l : List Nd) : Sl (gx l) l := by
 refine ⟨?_, oX l⟩
 unfold gx
 split
 · rename_i h; subst h; exact .inl ⟨rfl, rfl, rfl⟩
 · exact .inr ⟨_, rfl⟩
theorem Sl.eO {v : AV} {l : List Nd} (h : Sl v l) (U : St) : gI U v l := h.s.Vn
theorem Sl.cl {v : AV} {l : List Nd} (h : Sl v l) : closed (.agg [v]) = true := by simp [closed, bU, h.c]
theorem oS {b o k : Nat} {U : St} {K' : AV -> St -> Prop} {Kp : AV -> St -> Prop} (h : K' (.box b (o + k)) U) : (ag (some k) (.box b o)).wp K U K' Kp := h
theorem gH {b : Nat} {v : AV} {U τ : St} {K' : AV -> St -> Prop} {Kp : AV -> St -> Prop} (hb : U.box b = some [v]) (h : K' (.agg [v]) τ) : (aq (some (true, 1)) (.box b 0) U).wp K τ K' Kp := by
 rw [rL hb]; exact ⟨by simp, h⟩
def o4 (l : List Nd) : Bool := decide (l.length <= 1000) && l.all fun x => decide (x.text.length <= 100)
theorem vU {l : List Nd} : o4 l = true ↔ l.length <= 1000 /\ ∀ x ∈ l, x.text.length <= 100 := by simp [o4]
theorem Am {v : AV} {l : List Nd} (hv : eB v l.length (cw l)) : Pure K 49 [v] (.bool (o4 l)) := by
 intro U R hR
 refine OB ?_
 unfold Qt
 rw [hv.len, ai]
 refine tc (dj (fun h => ?_) fun h => ?_)
 · refine aj.eq hR ?_
   have : o4 l = false := by unfold o4; rw [decide_eq_false (by omega)]; rfl
   rw [this]
 refine ⟨fun m v0 v3 ae => ∃ i : Nat, m = l.length - i /\ i <= l.length /\ v0 = v /\ v3 = .int .i64 (i : Nat) /\ ae = U /\ ∀ j x, j < i -> l[j]? = some x -> x.text.length <= 100, ⟨_, 0, rfl, by omega, rfl, rfl, rfl, fun j x h => by omega⟩, ?_⟩
 rintro m v0 v3 ae ⟨i, rfl, hi, rfl, rfl, rfl, bw⟩
 have hlen : bB (some false) v0 = .val (.int .i64 l.length) := hv.len
 rw [hlen, ai, bj, ai]
 refine dj (fun aJ => ?_) fun fZ => ?_
 · have aJ : i < l.length := by omega
   obtain ⟨x, hx⟩ : ∃ x, l[i]? = some x := ⟨l[i], by simp [aJ]⟩
   refine wb hv.Vn hx (show (cT x)[1]? = some (.str x.text) from rfl) ?_
   show ((av.val (.int .i64 x.text.length)).wp K _ _ _)
   rw [ai]
   refine tc (dj (fun h => ?_) fun h => ?_)
   · refine aj.eq hR ?_
     have : o4 l = false := by
      cases ht : o4 l with
      | false => rfl
      | true => have := (vU.1 ht).2 x (fi hx); omega
     rw [this]
   · rw [cq]
     refine ⟨aZ (by omega) (by omega), l.length - (i + 1), by omega, i + 1, rfl, by omega, rfl, by simp, rfl, fun j y hj hy => ?_⟩
     by_cases qt : j = i
     · subst qt; rw [hx] at hy; cases hy; omega
     · exact bw j y (by omega) hy
 · refine aj.eq hR ?_
   have : o4 l = true := vU.2 ⟨by omega, fun x hx => by
    obtain ⟨j, hj, rfl⟩ := List.getElem_of_mem hx
    exact bw j _ (by omega) (by simp [hj])⟩
   rw [this]
theorem MI {v : AV} {l : List Nd} (hv : Sl v l) : Pure K 24 [.agg [v]] (.bool (o4 l)) := by
 refine Pure.of (by simp [bU, hv.cl]) rfl (fun U => rfl) fun R hR => ?_
 refine Oq ?_
 unfold Qj
 rw [eA rfl]
 intro b1 dC
 have m1 : ((bD ⟨.e, 0⟩).new b1 (.box (ax (.agg [v])))).box b1 = some [v] := aL
 generalize (bD _).new b1 _ = aF at *
 refine oS (eG m1 rfl ((Am hv.s).go ?_))
 exact aj.mk (hR _)
theorem MV {mu : Bool} {e sz m : Nat} {y : AV} {l2 : List AV} {U : St} {K' : AV -> St -> Prop} {Kp : AV -> St -> Prop} (hy : px U y = some (m, l2)) (hl : l2.length = m * sz) (hb : m <= 4294967296)
 (h0 : m = 0 -> K' .al U) (h1 : m ≠ 0 -> mu = true -> ∀ b, U.cQ b -> K' (.ms b 0 m sz e) (U.new b (.box l2))) (h2 : m ≠ 0 -> mu = false -> ∀ b, U.cQ b -> K' (.vec m (.own b) l2) (U.new b (.tok ⟨m, e, sz⟩))) : (eZ (some (e, sz)) mu .al y U).wp K U K' Kp := by
 simp only [eZ, hy, wp_cond]
 refine ⟨hl, ?_⟩
 by_cases hm : m = 0
 · rw [if_pos hm, ai]; exact h0 hm
 · rw [if_neg hm, wp_cond]
   refine ⟨hb, ?_⟩
   cases mu with
   | true => exact fun b dQ => h1 hm rfl b dQ
   | false => exact fun b dQ => h2 hm rfl b dQ
theorem E0 {n b k z e : Nat} {U : St} {L : List AV} (h : U.box b = some L) : resolve (n + 1) U (.ms b 0 k z e) = .vec k .iW (L.map (resolve n U)) := by
 rw [resolve, h]; rfl
theorem sc {n b : Nat} {U : St} {l : List Nd} (h : U.box b = some (cw l)) (h0 : l ≠ []) : resolve (n + 2) U (.ms b 0 l.length 6 43) = gx l := by
 rw [E0 h, E6, gx, if_neg h0]
theorem Ig {v : AV} {l : List Nd} (hv : Sl v l) (hl : l.length <= 100000) : Pure K 26 [.agg [v]] (.agg [gx l]) := by
 refine Pure.Qc (by simp [bU, hv.cl]) (FX l).cl fun R hR => ?_
 refine DU ?_
 unfold HG
 rw [eA rfl]
 intro b1 dC
 have m1 : ((bD ⟨.e, 0⟩).new b1 (.box (ax (.agg [v])))).box b1 = some [v] := aL
 generalize (bD _).new b1 _ = aF at *
 rw [cx]
 intro b2 gK
 have m2 : (aF.new b2 (.box [AV.al])).box b2 = some [.al] := aL
 have m1 := (bm gK (x := .box [AV.al])).bo m1
 generalize aF.new b2 (.box [AV.al]) = bJ at *
 refine oS (eG m1 rfl ?_)
 refine MV (hv.eO _).src (jv l ▸ by omega) (by omega) (fun h0 => ?_) (fun h1 _ b hb => ?_) (fun _ h => by cases h)
 · have : l = [] := qL.1 h0
   subst this
   refine nP [.al] rfl ?_
   rw [cA m2]
   refine ⟨⟨rfl, rfl, by simp⟩, ?_⟩
   rw [lq aS]
   exact ⟨by simp [aA], aj.mk (hR _ _ rfl)⟩
 · have bQ := hb.bZ m2
   refine nP [.ms b 0 l.length 6 43] rfl ?_
   rw [cA (show (bJ.new b (.box (cw l))).box b2 = some _ by rw [lX bQ]; exact m2)]
   refine ⟨⟨rfl, rfl, by simp⟩, ?_⟩
   rw [lq aS]
   refine ⟨by simp [aA], aj.mk (hR _ _ ?_)⟩
   have rh : ((bJ.new b (.box (cw l))).set b2 (.box (aA [AV.al] 0 (ax (.agg [.ms b 0 l.length 6 43]))))).box b = some (cw l) := by
    rw [aN bQ.symm, aL]
   generalize (bJ.new b (.box (cw l))).set b2 _ = bX at *
   show AV.agg [resolve 4 bX (.ms b 0 l.length 6 43)] = _
   have : l ≠ [] := fun e => h1 (by rw [e]; rfl)
   rw [sc rh this]
noncomputable def j9 (l : List Nd) (p : Int) : Int := if ey l ≠ 0 then ey l else if p < 0 \/ (l.length : Int) <= p then 3 else 0
theorem qX {l : List Nd} {p : Int} (h : j9 l p = 0) : ∃ (n : Nat) (t s : Tre), p = n /\ l = t.flat /\ t.kind = 1 /\ t.ok = true /\ n < l.length /\ dW l n s := by
 unfold j9 at h
 split at h
 · rename_i hc; exact absurd h hc
 · rename_i hc
   split at h
   · cases h
   · rename_i hp
     have hc : ey l = 0 := Classical.not_not.1 hc
     have h9 : ¬ 900 < l.length := fun h => by unfold ey at hc; rw [if_pos h] at hc; cases hc
     have : ∃ t : Tre, l = t.flat /\ t.kind = 1 /\ t.ok = true := Classical.not_not.1 fun h => by rw [tn h9 h] at hc; cases hc
     obtain ⟨t, rfl, h1, h2⟩ := this
     obtain ⟨⟨s, _, hs, _⟩, _⟩ := place t (i := p.toNat) (by omega)
     exact ⟨p.toNat, t, s, by omega, rfl, h1, h2, by omega, hs⟩
end Go.Rip
namespace Go.Rip
open Go.Proofs Go.RowKit
def jH (l : List Nd) (p : Nat) : List Nat := fA l ((p : Int) + eT l p) l.length (p + 1)
theorem BD {l : List Nd} {n : Nat} {x : Nd} (h : l[n]? = some x) : eT l n = x.size.toNat := by unfold eT; rw [h]; rfl
theorem Bk {l : List Nd} {n : Nat} {s : Tre} (h : dW l n s) : jH l n = bI (n + 1) s.kids := by
 obtain ⟨x, hx, _, hs, _⟩ := h.lD
 unfold jH
 rw [BD hx, show (x.size.toNat : Int) = s.flat.length by omega]
 exact xL h
theorem GM {t : Tre} : uN t.flat := ((rF t.flat).2 ⟨t, rfl⟩).1
end Go.Rip
namespace Go.Rip
open Go.Proofs Go.RowKit
theorem Ej {a b n : Int} {U : St} {K' : AV -> St -> Prop} {Kp : AV -> St -> Prop} (h : K' (.bool (decide (a <= n /\ n <= b))) U) : af K 122 [.int .i64 a, .int .i64 b, .int .i64 n] U (au K' Kp) := (mT a b n).go h
theorem qi {l : List Nd} {p : Int} (h : ey l ≠ 0) : j9 l p = ey l := by unfold j9; rw [if_pos h]
theorem Cm {l : List Nd} {p : Int} (h : ey l = 0) (hp : ¬ (0 <= p /\ p <= (l.length : Int) - 1)) : j9 l p = 3 := by unfold j9; rw [if_neg (by simp [h]), if_pos (by omega)]
theorem zH {l : List Nd} {p : Int} (h : ey l = 0) (hp : 0 <= p /\ p <= (l.length : Int) - 1) : j9 l p = 0 := by unfold j9; rw [if_neg (by simp [h]), if_neg (by omega)]
def Px (R : cB -> St -> Prop) (z : AV) : cB -> St -> Prop := fun r U => ∃ x e, r = .ret (.aQ [x, .int .i64 e]) /\ (e ≠ 0 -> R (.ret (.aQ [z, .int .i64 e])) U) /\ (e = 0 -> R (.ret (.aQ [x, .int .i64 0])) U)
section
variable {U : St} {R : cB -> St -> Prop} {v : AV} {l : List Nd} {p : Int} {g : FuncId} {fs cs : List AV}
theorem M0 (hg : dB K.P g = true) {a : List AV} {K' : AV -> St -> Prop} {Kp : AV -> St -> Prop} : (fY K.P (.func (.func g) fs cs) a).wp K U K' Kp = af K g (fs ++ a ++ cs) U (au K' Kp) := by
 simp only [fY, hg, if_true, iL]
theorem Rv {z : AV} {ae : St} {a : List AV} (h : af K g a ae (Px R z)) :
 af K g a ae (au (fun cz U => (bg cz 0).wp K U (fun v30 U => (bg cz 1).wp K U (fun v31 U => (ak .neq (BT.mk false false false none false) true v31 (AV.int .i64 0)).wp K U (fun dL U =>
  ao dL (aj R (AV.aQ [z, v31]) U) (aj R (AV.aQ [v30, (AV.int .i64 0)]) U)) (aa R)) (aa R)) (aa R)) (aa R)) := by
 refine h.mono fun r τ hr => ?_
 obtain ⟨x, e, rfl, h1, h2⟩ := hr
 simp only [bu, bR, List.drop, bG, ct, ai]
 by_cases he : e = 0
 · simp only [he, bS, bV]
   exact du (aj.mk (h2 he))
 · simp only [he, cm, da]
   exact cG (aj.mk (h1 he))
theorem We (hv : Sl v l) (hl : l.length <= 10000) (iy : ∀ x ∈ l, x.text.length <= 3000) (hg : dB K.P g = true)
 (h0 : j9 l p ≠ 0 -> ∀ ae, cJ U ae -> R (.ret (.aQ [.int .i64 0, .int .i64 (j9 l p)])) ae)
 (h1 : j9 l p = 0 -> ∀ ae, cJ U ae -> af K g (fs ++ [.agg [v]] ++ cs) ae (Px R (.int .i64 0))) : af K 82 [.agg [v], .int .i64 p, .func (.func g) fs cs] U R := by
 refine OP ?_
 unfold QI
 rw [eA rfl]
 intro b1 dC
 have m1 : (U.new b1 (.box (ax (.agg [v])))).box b1 = some [v] := aL
 have e1 := bm dC (x := .box (ax (.agg [v])))
 generalize U.new b1 _ = bJ at *
 refine gH m1 ((yn hv.s hv.c hl iy).go ?_)
 rw [ct, ai]
 by_cases hc : ey l = 0
 rotate_left
 · simp only [hc, cm, da]
   refine cG (aj.mk ?_)
   rw [<- qi (p := p) hc]
   exact h0 (by rw [qi hc]; exact hc) _ e1
 simp only [hc, bS, bV]
 refine du (oS (eG m1 rfl ?_))
 rw [hv.s.len, ai, fx, er, wp_cond, ai]
 refine ⟨aZ (by omega) (by omega), Ej ?_⟩
 simp only [cU, ai]
 by_cases hp : 0 <= p /\ p <= (l.length : Int) - 1
 rotate_left
 · simp only [hp, cm, da]
   refine cG (aj.mk ?_)
   have := Cm hc hp
   rw [<- this]
   exact h0 (by rw [this]; decide) _ e1
 simp only [hp, and_self, bS, bV]
 refine du (gH m1 (nP [v] rfl ?_))
 rw [M0 hg]
 exact Rv (h1 (zH hc hp) _ e1)
end
end Go.Rip
namespace Go.Rip
open Go.Proofs Go.RowKit
section
variable {v : AV} {l : List Nd}
theorem Nk {U : St} {R : cB -> St -> Prop} {c : iV} (h0 : l ≠ []) (hl : l.length <= 100000) (h : ∀ ae b, cJ U ae -> U.live b = none -> ae.box b = some (cw l) -> R (.ret (.ms b 0 l.length 6 43)) ae) : af K 89 [.vec l.length c (cw l)] U R := by
 refine OU ?_
 unfold QN
 rw [show ak .eql (BT.mk false false false none true) true (.vec l.length c (cw l)) .al = .val (.bool false) from rfl, ai]
 refine du ?_
 rw [BE]
 refine ⟨by omega, ?_⟩
 rw [Gl]
 refine ⟨rfl, fun b hb => ?_⟩
 have IC : (U.new b (.box (bL 0 [AV.int .u8 0, AV.str [], AV.int .i64 0, AV.int .i64 0, AV.int .i64 0, AV.int .i64 0]))).box b = some [] := aL
 refine MW IC rfl ⟨jv l ▸ by omega, by simp, by omega⟩ fun b' dQ => ?_
 rw [ck]
 have e1 := (bm hb (x := .box (bL 0 [AV.int .u8 0, AV.str [], AV.int .i64 0, AV.int .i64 0, AV.int .i64 0, AV.int .i64 0]))).del (b := b) hb.1
 exact aj.mk (h _ b' (e1.new dQ) (e1.fresh dQ.1) (by rw [aL]; rfl))
end
end Go.Rip
namespace Go.Rip
open Go.Proofs Go.RowKit
theorem Grow.gj {r : Nat} {U ae : St} {v : AV} {e sz n : Nat} {l L L' : List AV} (h : Grow U v e sz n l) (hr : U.box r = some L) (A : eQ r L' U ae) : Grow ae v e sz n l := by
 rcases h with h | ⟨τ, r1, r2, r3⟩
 · exact .inl h
 · exact .inr ⟨τ, r1, A.ex.tok (fJ hr r2).symm r2, r3⟩
theorem Grow.other {U ae : St} {v w : AV} {e sz n e2 Wc n2 : Nat} {l l2 : List AV} (h : Grow U v e sz n l) (bQ : e ≠ e2) (k : Grow U w e2 Wc n2 l2) (e1 : ∀ b x, (∀ n l, w ≠ .vec n (.own b) l) -> U.live b = some x -> ae.live b = some x) : Grow ae v e sz n l := by
 rcases h with h | ⟨τ, r1, r2, r3⟩
 · exact .inl h
 · refine .inr ⟨τ, r1, ?_, r3⟩
   cases el : U.live τ with
   | none => exact absurd el (MN r2)
   | some x =>
     have := e1 τ x (fun n' l' hv => by
      rcases k with ⟨_, _, k⟩ | ⟨rM, k, k2, _⟩
      · rw [k] at hv; cases hv
      · rw [k] at hv; cases hv
        rw [r2] at k2; cases k2; exact bQ rfl) el
     rw [se (this.trans el.symm)]; exact r2
end Go.Rip
