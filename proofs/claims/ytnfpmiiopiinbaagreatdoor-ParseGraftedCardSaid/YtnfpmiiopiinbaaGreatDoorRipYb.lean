/- Lemmas for the proof: no conditions. -/
import Derived.Test.YtnfpmiiopiinbaaGreatDoorRipZz
import Derived.Test.YtnfpmiiopiinbaaGreatDoorRipQ
import Derived.Test.YtnfpmiiopiinbaaGreatDoorRipF
import Derived.Test.YtnfpmiiopiinbaaGreatDoorRipYa
import Derived.Test.YtnfpmiiopiinbaaGreatDoorRipW
import Derived.Test.YtnfpmiiopiinbaaGreatDoorRipV
import Derived.Test.YtnfpmiiopiinbaaGreatDoorRipG
set_option linter.unusedVariables false
set_option linter.unusedSimpArgs false
set_option linter.loopingSimpArgs false
namespace Go.Rip
open Go.Proofs Go.RowKit
theorem sh : ∀ l : List Nd, bS (bm l) = true := fun l => by
 induction l with
 | nil => rfl
 | cons x l ih => show bS (bD x ++ bm l) = true; simp [bD, bS, closed, ih]
theorem qI (l : List Nd) : closed (dZ l) = true := by
 unfold dZ; split
 · rfl
 · exact sh l
theorem wy (n : Nat) (U : St) (l : List Nd) : (bm l).map (resolve (n + 1) U) = bm l := by
 induction l with
 | nil => rfl
 | cons x l ih =>
   show ((bD x ++ bm l).map (resolve (n + 1) U)) = bD x ++ bm l
   rw [List.map_append, ih]; rfl
end Go.Rip
namespace Go.Rip
open Go.Proofs Go.RowKit
structure Sl (v : AV) (l : List Nd) : Prop where
 s : eN v l.length (bm l)
 c : closed v = true
theorem nJ (l : List Nd) : Sl (dZ l) l := by
 refine ⟨?_, qI l⟩
 unfold dZ
 split
 · rename_i h; subst h; exact .inl ⟨rfl, rfl, rfl⟩
 · exact .inr ⟨_, rfl⟩
theorem Sl.lr {v : AV} {l : List Nd} (h : Sl v l) (U : St) : j0 U v l := h.s.uC
theorem Sl.cl {v : AV} {l : List Nd} (h : Sl v l) : closed (.agg [v]) = true := by simp [closed, bS, h.c]
theorem tj {b o k : Nat} {U : St} {K' : AV -> St -> Prop} {Kp : AV -> St -> Prop} (h : K' (.box b (o + k)) U) : (af (some k) (.box b o)).wp K U K' Kp := h
theorem iV {b : Nat} {v : AV} {U τ : St} {K' : AV -> St -> Prop} {Kp : AV -> St -> Prop} (hb : U.box b = some [v]) (h : K' (.agg [v]) τ) : (aq (some (true, 1)) (.box b 0) U).wp K τ K' Kp := by
 rw [nZ hb]; exact ⟨by simp, h⟩
def nW (l : List Nd) : Bool := decide (l.length <= 1000) && l.all fun x => decide (x.text.length <= 100)
theorem u4 {l : List Nd} : nW l = true ↔ l.length <= 1000 /\ ∀ x ∈ l, x.text.length <= 100 := by simp [nW]
theorem zA {v : AV} {l : List Nd} (hv : eN v l.length (bm l)) : Pure K 49 [v] (.bool (nW l)) := by
 intro U R hR
 refine MF ?_
 unfold OA
 rw [hv.len, ah]
 refine Dm (ir (fun h => ?_) fun h => ?_)
 · refine al.eq hR ?_
   have : nW l = false := by unfold nW; rw [decide_eq_false (by omega)]; rfl
   rw [this]
 refine ⟨fun m v0 v3 ad => ∃ i : Nat, m = l.length - i /\ i <= l.length /\ v0 = v /\ v3 = .int .i64 (i : Nat) /\ ad = U /\ ∀ j x, j < i -> l[j]? = some x -> x.text.length <= 100, ⟨_, 0, rfl, by omega, rfl, rfl, rfl, fun j x h => by omega⟩, ?_⟩
 rintro m v0 v3 ad ⟨i, rfl, hi, rfl, rfl, rfl, bK⟩
 have hlen : bU (some false) v0 = .val (.int .i64 l.length) := hv.len
 rw [hlen, ah, bP, ah]
 refine ir (fun aK => ?_) fun hY => ?_
 · have aK : i < l.length := by omega
   obtain ⟨x, hx⟩ : ∃ x, l[i]? = some x := ⟨l[i], by simp [aK]⟩
   refine Ut hv.uC hx (show (bD x)[1]? = some (.str x.text) from rfl) ?_
   show ((aA.val (.int .i64 x.text.length)).wp K _ _ _)
   rw [ah]
   refine Dm (ir (fun h => ?_) fun h => ?_)
   · refine al.eq hR ?_
     have : nW l = false := by
      cases ht : nW l with
      | false => rfl
      | true => have := (u4.1 ht).2 x (fS hx); omega
     rw [this]
   · rw [c8]
     refine ⟨aX (by omega) (by omega), l.length - (i + 1), by omega, i + 1, rfl, by omega, rfl, by simp, rfl, fun j y hj hy => ?_⟩
     by_cases rD : j = i
     · subst rD; rw [hx] at hy; cases hy; omega
     · exact bK j y (by omega) hy
 · refine al.eq hR ?_
   have : nW l = true := u4.2 ⟨by omega, fun x hx => by
    obtain ⟨j, hj, rfl⟩ := List.getElem_of_mem hx
    exact bK j _ (by omega) (by simp [hj])⟩
   rw [this]
theorem KX {v : AV} {l : List Nd} (hv : Sl v l) : Pure K 24 [.agg [v]] (.bool (nW l)) := by
 refine Pure.of (by simp [bS, hv.cl]) rfl (fun U => rfl) fun R hR => ?_
 refine Mz ?_
 unfold Ou
 rw [eC rfl]
 intro b1 fC
 have m1 : ((br ⟨.e, 0⟩).new b1 (.box (au (.agg [v])))).box b1 = some [v] := aD
 generalize (br _).new b1 _ = ay at *
 refine tj (eW m1 rfl ((zA hv.s).go ?_))
 exact al.mk (hR _)
theorem Di {mu : Bool} {e sz m : Nat} {y : AV} {l2 : List AV} {U : St} {K' : AV -> St -> Prop} {Kp : AV -> St -> Prop} (hy : oF U y = some (m, l2)) (hl : l2.length = m * sz) (hb : m <= 4294967296)
 (h0 : m = 0 -> K' .ag U) (h1 : m ≠ 0 -> mu = true -> ∀ b, U.cB b -> K' (.ms b 0 m sz e) (U.new b (.box l2))) (h2 : m ≠ 0 -> mu = false -> ∀ b, U.cB b -> K' (.vec m (.own b) l2) (U.new b (.tok ⟨m, e, sz⟩))) : (dS (some (e, sz)) mu .ag y U).wp K U K' Kp := by
 simp only [dS, hy, wp_cond]
 refine ⟨hl, ?_⟩
 by_cases hm : m = 0
 · rw [if_pos hm, ah]; exact h0 hm
 · rw [if_neg hm, wp_cond]
   refine ⟨hb, ?_⟩
   cases mu with
   | true => exact fun b cZ => h1 hm rfl b cZ
   | false => exact fun b cZ => h2 hm rfl b cZ
theorem wx {n b k z e : Nat} {U : St} {L : List AV} (h : U.box b = some L) : resolve (n + 1) U (.ms b 0 k z e) = .vec k .gl (L.map (resolve n U)) := by
 rw [resolve, h]; rfl
theorem qU {n b : Nat} {U : St} {l : List Nd} (h : U.box b = some (bm l)) (h0 : l ≠ []) : resolve (n + 2) U (.ms b 0 l.length 6 43) = dZ l := by
 rw [wx h, wy, dZ, if_neg h0]
theorem zO {v : AV} {l : List Nd} (hv : Sl v l) (hl : l.length <= 100000) : Pure K 26 [.agg [v]] (.agg [dZ l]) := by
 refine Pure.Oj (by simp [bS, hv.cl]) (nJ l).cl fun R hR => ?_
 refine MA ?_
 unfold Ov
 rw [eC rfl]
 intro b1 fC
 have m1 : ((br ⟨.e, 0⟩).new b1 (.box (au (.agg [v])))).box b1 = some [v] := aD
 generalize (br _).new b1 _ = ay at *
 rw [cw]
 intro b2 jO
 have m2 : (ay.new b2 (.box [AV.ag])).box b2 = some [.ag] := aD
 have m1 := (bj jO (x := .box [AV.ag])).bf m1
 generalize ay.new b2 (.box [AV.ag]) = bH at *
 refine tj (eW m1 rfl ?_)
 refine Di (hv.lr _).src (eS l ▸ by omega) (by omega) (fun h0 => ?_) (fun h1 _ b hb => ?_) (fun _ h => by cases h)
 · have : l = [] := pK.1 h0
   subst this
   refine pc [.ag] rfl ?_
   rw [cF m2]
   refine ⟨⟨rfl, rfl, by simp⟩, ?_⟩
   rw [nV aR]
   exact ⟨by simp [aw], al.mk (hR _ _ rfl)⟩
 · have bW := hb.cn m2
   refine pc [.ms b 0 l.length 6 43] rfl ?_
   rw [cF (show (bH.new b (.box (bm l))).box b2 = some _ by rw [jt bW]; exact m2)]
   refine ⟨⟨rfl, rfl, by simp⟩, ?_⟩
   rw [nV aR]
   refine ⟨by simp [aw], al.mk (hR _ _ ?_)⟩
   have zX : ((bH.new b (.box (bm l))).set b2 (.box (aw [AV.ag] 0 (au (.agg [.ms b 0 l.length 6 43]))))).box b = some (bm l) := by
    rw [aE bW.symm, aD]
   generalize (bH.new b (.box (bm l))).set b2 _ = bJ at *
   show AV.agg [resolve 4 bJ (.ms b 0 l.length 6 43)] = _
   have : l ≠ [] := fun e => h1 (by rw [e]; rfl)
   rw [qU zX this]
noncomputable def gA (l : List Nd) (p : Int) : Int := if dI l ≠ 0 then dI l else if p < 0 \/ (l.length : Int) <= p then 3 else 0
theorem zJ {l : List Nd} {p : Int} (h : gA l p = 0) : ∃ (n : Nat) (t s : Tre), p = n /\ l = t.flat /\ t.kind = 1 /\ t.ok = true /\ n < l.length /\ eZ l n s := by
 unfold gA at h
 split at h
 · rename_i hc; exact absurd h hc
 · rename_i hc
   split at h
   · cases h
   · rename_i hp
     have hc : dI l = 0 := Classical.not_not.1 hc
     have h9 : ¬ 900 < l.length := fun h => by unfold dI at hc; rw [if_pos h] at hc; cases hc
     have : ∃ t : Tre, l = t.flat /\ t.kind = 1 /\ t.ok = true := Classical.not_not.1 fun h => by rw [oR h9 h] at hc; cases hc
     obtain ⟨t, rfl, h1, h2⟩ := this
     obtain ⟨⟨s, _, hs, _⟩, _⟩ := place t (i := p.toNat) (by omega)
     exact ⟨p.toNat, t, s, by omega, rfl, h1, h2, by omega, hs⟩
end Go.Rip
namespace Go.Rip
open Go.Proofs Go.RowKit
theorem Grow.fz {r : Nat} {U ad : St} {v : AV} {e sz n : Nat} {l L L' : List AV} (h : Grow U v e sz n l) (hr : U.box r = some L) (A : eo r L' U ad) : Grow ad v e sz n l := by
 rcases h with h | ⟨τ, r1, r2, r3⟩
 · exact .inl h
 · exact .inr ⟨τ, r1, A.ex.tok (eU hr r2).symm r2, r3⟩
theorem Grow.other {U ad : St} {v w : AV} {e sz n e2 TD n2 : Nat} {l l2 : List AV} (h : Grow U v e sz n l) (bW : e ≠ e2) (k : Grow U w e2 TD n2 l2) (e1 : ∀ b x, (∀ n l, w ≠ .vec n (.own b) l) -> U.live b = some x -> ad.live b = some x) : Grow ad v e sz n l := by
 rcases h with h | ⟨τ, r1, r2, r3⟩
 · exact .inl h
 · refine .inr ⟨τ, r1, ?_, r3⟩
   cases el : U.live τ with
   | none => exact absurd el (K4 r2)
   | some x =>
     have := e1 τ x (fun n' l' hv => by
      rcases k with ⟨_, _, k⟩ | ⟨qB, k, k2, _⟩
      · rw [k] at hv; cases hv
      · rw [k] at hv; cases hv
        rw [r2] at k2; cases k2; exact bW rfl) el
     rw [qX (this.trans el.symm)]; exact r2
end Go.Rip
namespace Go.Rip
open Go.Proofs Go.RowKit
theorem mA {l : List Nd} {n : Nat} {x : Nd} (h : l[n]? = some x) : a8 l n = x.size.toNat := by unfold a8; rw [h]; rfl
def kn (l : List Nd) (p : Nat) : Nat -> Nat
 | 0 => 0
 | i + 1 => if i + 1 + a8 l (i + 1) <= p then kn l p i else i + 1
theorem sr {t : Tre} : tQ t.flat := ((AG t.flat).2 ⟨t, rfl⟩).1
noncomputable def ct (l : List Nd) (p : Int) : List Nd := if gA l p = 0 then (l.drop p.toNat).take (a8 l p.toNat) else []
theorem IG (l : List Nd) (n : Nat) : (bm l).take (n * 6) = bm (l.take n) := by
 induction l generalizing n with
 | nil => simp [bm]
 | cons x l ih =>
   cases n with
   | zero => simp [bm]
   | succ n =>
     show (bD x ++ bm l).take ((n + 1) * 6) = bD x ++ bm (l.take n)
     rw [List.take_append, <- ih]
     have : (bD x).length = 6 := rfl
     rw [this, qR (by rw [this]; omega), show (n + 1) * 6 - 6 = n * 6 by omega]
theorem KP {v : AV} {l : List Nd} (hv : eN v l.length (bm l)) (h0 : l ≠ []) {a b : Nat} (xJ : a <= b) (hb : b <= l.length) {hi : Option AV} (R7 : cJ l.length hi = some (b : Int)) {lo : Option AV} (Si : cJ 0 lo = some (a : Int)) :
 ∃ c, dh false (some (43, 6)) v lo hi = .cond (0 <= (a : Int) /\ (a : Int) <= b /\ (b : Int) <= l.length) (.val (.vec ((l.take b).drop a).length c (bm ((l.take b).drop a)))) := by
 rcases hv with ⟨h1, _, _⟩ | ⟨c, rfl⟩
 · exact absurd (pK.1 h1) h0
 · refine ⟨pZ c hi, ?_⟩
   rw [uY, R7, Si]
   simp only [eG]
   have : b - a = ((l.take b).drop a).length := by simp; omega
   rw [this, IG, Av]
theorem rS {v : AV} {l : List Nd} (hv : eN v l.length (bm l)) (h0 : l ≠ []) {a b : Nat} (xJ : a <= b) (hb : b <= l.length) {hi lo : Option AV} (R7 : cJ l.length hi = some (b : Int)) (Si : cJ 0 lo = some (a : Int)) {k : AV -> Prop}
 (h : ∀ c, k (.vec ((l.take b).drop a).length c (bm ((l.take b).drop a)))) : ai K (dh false (some (43, 6)) v lo hi) k := by
 obtain ⟨c, e⟩ := KP hv h0 xJ hb R7 Si
 rw [e, fq, aC]
 exact ⟨by omega, h c⟩
end Go.Rip
namespace Go.Rip
open Go.Proofs Go.RowKit
theorem Dq {a b n : Int} {U : St} {K' : AV -> St -> Prop} {Kp : AV -> St -> Prop} (h : K' (.bool (decide (a <= n /\ n <= b))) U) : ae K 122 [.int .i64 a, .int .i64 b, .int .i64 n] U (ar K' Kp) := (lQ a b n).go h
theorem se {l : List Nd} {p : Int} (h : dI l ≠ 0) : gA l p = dI l := by unfold gA; rw [if_pos h]
theorem Bu {l : List Nd} {p : Int} (h : dI l = 0) (hp : ¬ (0 <= p /\ p <= (l.length : Int) - 1)) : gA l p = 3 := by unfold gA; rw [if_neg (by simp [h]), if_pos (by omega)]
theorem yR {l : List Nd} {p : Int} (h : dI l = 0) (hp : 0 <= p /\ p <= (l.length : Int) - 1) : gA l p = 0 := by unfold gA; rw [if_neg (by simp [h]), if_neg (by omega)]
def NC (R : cu -> St -> Prop) (z : AV) : cu -> St -> Prop := fun r U => ∃ x e, r = .ret (.aN [x, .int .i64 e]) /\ (e ≠ 0 -> R (.ret (.aN [z, .int .i64 e])) U) /\ (e = 0 -> R (.ret (.aN [x, .int .i64 0])) U)
section
variable {U : St} {R : cu -> St -> Prop} {v : AV} {l : List Nd} {p : Int} {g : FuncId} {fs cs : List AV}
theorem Lf (hg : dj K.P g = true) {a : List AV} {K' : AV -> St -> Prop} {Kp : AV -> St -> Prop} : (fo K.P (.func (.func g) fs cs) a).wp K U K' Kp = ae K g (fs ++ a ++ cs) U (ar K' Kp) := by
 simp only [fo, hg, if_true, hP]
theorem Px {z : AV} {ad : St} {a : List AV} (h : ae K g a ad (NC R z)) :
 ae K g a ad (ar (fun dO U => (aV dO 0).wp K U (fun v30 U => (aV dO 1).wp K U (fun v31 U => (av .neq (BT.mk false false false none false) true v31 (AV.int .i64 0)).wp K U (fun fj U =>
  az fj (al R (AV.aN [z, v31]) U) (al R (AV.aN [v30, (AV.int .i64 0)]) U)) (aa R)) (aa R)) (aa R)) (aa R)) := by
 refine h.mono fun r τ hr => ?_
 obtain ⟨x, e, rfl, h1, h2⟩ := hr
 simp only [bz, bL, List.drop, bB, cO, ah]
 by_cases he : e = 0
 · simp only [he, cX, cq]
   exact dF (al.mk (h2 he))
 · simp only [he, dz, dR]
   exact dq (al.mk (h1 he))
theorem TG (hv : Sl v l) (hl : l.length <= 10000) (fY : ∀ x ∈ l, x.text.length <= 3000) (hg : dj K.P g = true)
 (h0 : gA l p ≠ 0 -> ∀ ad, cm U ad -> R (.ret (.aN [.ag, .int .i64 (gA l p)])) ad)
 (h1 : gA l p = 0 -> ∀ ad, cm U ad -> ae K g (fs ++ [.agg [v]] ++ cs) ad (NC R .ag)) : ae K 91 [.agg [v], .int .i64 p, .func (.func g) fs cs] U R := by
 refine MS ?_
 unfold ON
 rw [eC rfl]
 intro b1 fC
 have m1 : (U.new b1 (.box (au (.agg [v])))).box b1 = some [v] := aD
 have e1 := bj fC (x := .box (au (.agg [v])))
 generalize U.new b1 _ = bH at *
 refine iV m1 ((oQ hv.s hv.c hl fY).go ?_)
 rw [cO, ah]
 by_cases hc : dI l = 0
 rotate_left
 · simp only [hc, dz, dR]
   refine dq (al.mk ?_)
   rw [<- se (p := p) hc]
   exact h0 (by rw [se hc]; exact hc) _ e1
 simp only [hc, cX, cq]
 refine dF (tj (eW m1 rfl ?_))
 rw [hv.s.len, ah, dP, db, wp_cond, ah]
 refine ⟨aX (by omega) (by omega), Dq ?_⟩
 simp only [dt, ah]
 by_cases hp : 0 <= p /\ p <= (l.length : Int) - 1
 rotate_left
 · simp only [hp, dz, dR]
   refine dq (al.mk ?_)
   have := Bu hc hp
   rw [<- this]
   exact h0 (by rw [this]; decide) _ e1
 simp only [hp, and_self, cX, cq]
 refine dF (iV m1 (pc [v] rfl ?_))
 rw [Lf hg]
 exact Px (h1 (yR hc hp) _ e1)
end
end Go.Rip
namespace Go.Rip
open Go.Proofs Go.RowKit
section
variable {v : AV} {l : List Nd}
theorem S6 {U : St} {R : cu -> St -> Prop} {p : Nat} (hv : eN v l.length (bm l)) (hs : tQ l) (hl : l.length <= 10000) (h0 : 0 < p) (hp : p < l.length) (h : ∀ ad, cm U ad -> R (.ret (.int .i64 (kn l p (p - 1) : Nat))) ad) : ae K 85 [.agg [v], .int .i64 (p : Nat)] U R := by
 refine MP ?_
 unfold OK
 rw [eC rfl]
 intro b2 jO
 have m2 : (U.new b2 (.box (au (.agg [v])))).box b2 = some [v] := aD
 have e2 := bj jO (x := .box (au (.agg [v])))
 generalize U.new b2 _ = bH at *
 rw [dP, db, wp_cond, ah]
 refine ⟨aX (by omega) (by omega), ?_⟩
 refine ⟨fun m v1 v2 v5 ad => ∃ i : Nat, m = i /\ i < p /\ v1 = .int .i64 (p : Nat) /\ v2 = .box b2 0 /\ v5 = .int .i64 (i : Nat) /\ ad = bH /\ kn l p i = kn l p (p - 1), ⟨_, p - 1, rfl, by omega, rfl, rfl, by congr 1; omega, rfl, rfl⟩, ?_⟩
 rintro m v1 v2 v5 ad ⟨i, rfl, hi, rfl, rfl, rfl, rfl, hu⟩
 obtain ⟨x, hx⟩ : ∃ x, l[m]? = some x := ⟨l[m]'(by omega), by simp [show m < l.length by omega]⟩
 have EC := hs.2.2 m x hx
 refine tj (tj (eW m2 rfl ?_))
 refine Ut hv.uC hx (show (bD x)[5]? = some (.int .i64 x.size) from rfl) ?_
 rw [c8]
 refine ⟨aX (by omega) (by omega), ?_⟩
 rw [jU, ah]
 have Cg := mA hx
 refine ir (fun hle => ?_) fun rC => ?_
 · have hm : m ≠ 0 := by
    rintro rfl
    have := hs.2.1
    cases l with
    | nil => simp at hx
    | cons y r =>
      simp at hx; subst hx
      simp only [jF] at this
      omega
   rw [dP, db, wp_cond, ah]
   refine ⟨aX (by omega) (by omega), m - 1, by omega, m - 1, rfl, by omega, rfl, rfl, by congr 1; omega, rfl, ?_⟩
   rw [<- hu]
   obtain ⟨k, rfl⟩ : ∃ k, m = k + 1 := ⟨m - 1, by omega⟩
   rw [Nat.add_sub_cancel, kn, if_pos (by omega)]
 · refine al.eq (h _ e2) ?_
   rw [<- hu]
   cases m with
   | zero => rfl
   | succ k => rw [kn, if_neg (by omega)]
theorem Lv {U : St} {R : cu -> St -> Prop} {c : hX} (h0 : l ≠ []) (hl : l.length <= 100000) (h : ∀ ad b, cm U ad -> U.live b = none -> ad.box b = some (bm l) -> R (.ret (.ms b 0 l.length 6 43)) ad) : ae K 89 [.vec l.length c (bm l)] U R := by
 refine MR ?_
 unfold OM
 rw [show av .eql (BT.mk false false false none true) true (.vec l.length c (bm l)) .ag = .val (.bool false) from rfl, ah]
 refine dF ?_
 rw [AL]
 refine ⟨by omega, ?_⟩
 rw [Ff]
 refine ⟨rfl, fun b hb => ?_⟩
 have BU : (U.new b (.box (bw 0 [AV.int .u8 0, AV.str [], AV.int .i64 0, AV.int .i64 0, AV.int .i64 0, AV.int .i64 0]))).box b = some [] := aD
 refine Dj BU rfl ⟨eS l ▸ by omega, by simp, by omega⟩ fun b' cZ => ?_
 rw [cD]
 have e1 := (bj hb (x := .box (bw 0 [AV.int .u8 0, AV.str [], AV.int .i64 0, AV.int .i64 0, AV.int .i64 0, AV.int .i64 0]))).del (b := b) hb.1
 exact al.mk (h _ b' (e1.new cZ) (e1.fresh cZ.1) (by rw [aD]; rfl))
theorem xn (hv : Sl v l) (hl : l.length <= 10000) (fY : ∀ x ∈ l, x.text.length <= 3000) (p : Int) : Pure K 44 [.agg [v], .int .i64 p] (.aN [dZ (ct l p), .int .i64 (gA l p)]) := by
 refine Pure.Oj (by simp [bS, hv.cl, show closed (.int .i64 p) = true from rfl]) (by simp [closed, bS, qI]) fun R hR => ?_
 refine MD ?_
 unfold Oy
 rw [eC rfl]
 intro b1 fC
 have m1 : ((br ⟨.e, 0⟩).new b1 (.box (au (.agg [v])))).box b1 = some [v] := aD
 generalize (br _).new b1 _ = ay at *
 rw [eC rfl]
 intro b2 jO
 have m2 : (ay.new b2 (.box (au (.int .i64 p)))).box b2 = some [.int .i64 p] := aD
 have m1 := (bj jO (x := .box (au (.int .i64 p)))).bf m1
 generalize ay.new b2 _ = bH at *
 refine iV m1 (eW m2 rfl ?_)
 have fin : ∀ (x : AV) (e : Int) (ad : St), resolve 4 ad x = dZ (ct l p) -> e = gA l p -> ar (fun v9 U => (aV v9 0).wp K U (fun v10 U => (aV v9 1).wp K U (fun v11 U => al R (AV.aN [v10, v11]) U) (aa R)) (aa R)) (aa R) (.ret (.aN [x, .int .i64 e])) ad := by
  intro x e ad hx he
  simp only [bz, bL, List.drop, bB]
  refine al.mk (hR _ _ ?_)
  subst he
  show AV.aN [resolve 4 ad x, _] = _
  rw [hx]; rfl
 refine TG (fs := []) (cs := [.box b2 0]) hv hl fY (by kernel_rfl) (fun ha bJ e2 => ?_) (fun ha bJ e2 => ?_)
 · refine fin _ _ _ ?_ rfl
   have : ct l p = [] := by unfold ct; rw [if_neg ha]
   rw [this]; rfl
 have m2 := e2.bf m2
 show ae K 92 [.agg [v], .box b2 0] bJ _
 refine MT ?_
 unfold OO
 rw [eC rfl]
 intro b3 gS
 have m3 : (bJ.new b3 (.box (au (.agg [v])))).box b3 = some [v] := aD
 have m2 := (bj gS (x := .box (au (.agg [v])))).bf m2
 generalize bJ.new b3 _ = c7 at *
 refine eA (eA (cI m3 rfl (cI m2 rfl (cI m2 rfl (eA (eA (cI m3 rfl (cI m2 rfl ?_))))))))
 obtain ⟨n, t, s, rfl, rfl, h1, h2, h3, hs⟩ := zJ ha
 obtain ⟨x, hx, _, EC, _⟩ := hs.mE
 have hle := hs.le
 refine sU hv.s hx fun r => ?_
 simp only [cQ, aC, bD, jh, List.drop, mY, fP]
 rw [o0]
 refine ⟨aX (by omega) (by omega), ?_⟩
 have bW : t.flat ≠ [] := fun e => by rw [e] at h3; simp at h3
 have hb : ((n : Int) + x.size) = ((n + s.flat.length : Nat) : Int) := by omega
 rw [hb]
 refine rS (a := n) (b := n + s.flat.length) hv.s bW (by omega) hle (eJ _ _ _) (eJ _ _ _) fun c => ?_
 have sx : ct t.flat n = ((t.flat.take (n + s.flat.length)).drop n) := by
  unfold ct
  rw [if_pos ha, eG, mA hx, List.drop_take]
  congr 1; omega
 have jy := s.cV
 rw [<- sx]
 have hlen : (ct t.flat n).length = s.flat.length := by rw [sx]; simp; omega
 have Ab : ct t.flat n ≠ [] := fun e => by rw [e] at hlen; simp at hlen; omega
 refine Lv Ab (by omega) fun cH b4 e4 f4 m4 => ?_
 rw [bz]
 refine ⟨fun b' cZ => ?_, al.mk ⟨_, _, rfl, fun h => absurd rfl h, fun _ => fin _ _ _ ?_ ha.symm⟩⟩
 · simp only [bV, iI, gH, eH, dA, List.not_mem_nil, or_false] at cZ
   cases hl : c7.live b' with
   | some y => rw [e4 _ _ hl]
   | none =>
     rcases cZ with rfl | rfl | rfl | rfl | rfl
     all_goals first | exact absurd hl (bR m2) | exact absurd hl (bR m3)
 · rw [qU m4 Ab]
end
end Go.Rip
