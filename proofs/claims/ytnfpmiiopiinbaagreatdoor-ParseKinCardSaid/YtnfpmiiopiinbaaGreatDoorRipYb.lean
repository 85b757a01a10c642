/- Lemmas for the proof: no conditions. -/
import Derived.Test.YtnfpmiiopiinbaaGreatDoorRipZz
import Derived.Test.YtnfpmiiopiinbaaGreatDoorRipQ
import Derived.Test.YtnfpmiiopiinbaaGreatDoorRipF
import Derived.Test.YtnfpmiiopiinbaaGreatDoorRipYa
import Derived.Test.YtnfpmiiopiinbaaGreatDoorRipW
import Derived.Test.YtnfpmiiopiinbaaGreatDoorRipV
import Derived.Test.YtnfpmiiopiinbaaGreatDoorRipG
import Derived.Test.YtnfpmiiopiinbaaGreatDoorRipAw
set_option linter.unusedVariables false
set_option linter.unusedSimpArgs false
set_option linter.loopingSimpArgs false
namespace Go.Rip
open Go.Proofs Go.RowKit
theorem wo : ∀ l : List Nd, bH (cR l) = true := fun l => by
 induction l with
 | nil => rfl
 | cons x l ih => show bH (cS x ++ cR l) = true; simp [cS, bH, closed, ih]
theorem Cv (l : List Nd) : closed (vH l) = true := by
 unfold vH; split
 · rfl
 · exact wo l
theorem CW (n : Nat) (U : St) (l : List Nd) : (cR l).map (resolve (n + 1) U) = cR l := by
 induction l with
 | nil => rfl
 | cons x l ih =>
   show ((cS x ++ cR l).map (resolve (n + 1) U)) = cS x ++ cR l
   rw [List.map_append, ih]; rfl
end Go.Rip
namespace Go.Rip
open Go.Proofs Go.RowKit
structure Sl (v : AV) (l : List Nd) : Prop where
 s : eS v l.length (cR l)
 c : closed v = true
theorem DD (l : List Nd) : Sl (vH l) l := by
 refine ⟨?_, Cv l⟩
 unfold vH
 split
 · rename_i h; subst h; exact .inl ⟨rfl, rfl, rfl⟩
 · exact .inr ⟨_, rfl⟩
theorem Sl.jY {v : AV} {l : List Nd} (h : Sl v l) (U : St) : lz U v l := h.s.KL
theorem Sl.cl {v : AV} {l : List Nd} (h : Sl v l) : closed (.agg [v]) = true := by simp [closed, bH, h.c]
theorem ql {b o k : Nat} {U : St} {K' : AV -> St -> Prop} {Kp : AV -> St -> Prop} (h : K' (.box b (o + k)) U) : (af (some k) (.box b o)).wp K U K' Kp := h
theorem oh {b : Nat} {v : AV} {U τ : St} {K' : AV -> St -> Prop} {Kp : AV -> St -> Prop} (hb : U.box b = some [v]) (h : K' (.agg [v]) τ) : (ao (some (true, 1)) (.box b 0) U).wp K τ K' Kp := by
 rw [pO hb]; exact ⟨by simp, h⟩
def ni (l : List Nd) : Bool := decide (l.length <= 1000) && l.all fun x => decide (x.text.length <= 100)
theorem tZ {l : List Nd} : ni l = true ↔ l.length <= 1000 /\ ∀ x ∈ l, x.text.length <= 100 := by simp [ni]
theorem yz {v : AV} {l : List Nd} (hv : eS v l.length (cR l)) : Pure K 49 [v] (.bool (ni l)) := by
 intro U R hR
 refine Ll ?_
 unfold MY
 rw [hv.len, ag]
 refine JM (kX (fun h => ?_) fun h => ?_)
 · refine aj.eq hR ?_
   have : ni l = false := by unfold ni; rw [decide_eq_false (by omega)]; rfl
   rw [this]
 refine ⟨fun m v0 v3 ad => ∃ i : Nat, m = l.length - i /\ i <= l.length /\ v0 = v /\ v3 = .int .i64 (i : Nat) /\ ad = U /\ ∀ j x, j < i -> l[j]? = some x -> x.text.length <= 100, ⟨_, 0, rfl, by omega, rfl, rfl, rfl, fun j x h => by omega⟩, ?_⟩
 rintro m v0 v3 ad ⟨i, rfl, hi, rfl, rfl, rfl, bw⟩
 have hlen : bZ (some false) v0 = .val (.int .i64 l.length) := hv.len
 rw [hlen, ag, bO, ag]
 refine kX (fun aH => ?_) fun iX => ?_
 · have aH : i < l.length := by omega
   obtain ⟨x, hx⟩ : ∃ x, l[i]? = some x := ⟨l[i], by simp [aH]⟩
   refine L9 hv.KL hx (show (cS x)[1]? = some (.str x.text) from rfl) ?_
   show ((aA.val (.int .i64 x.text.length)).wp K _ _ _)
   rw [ag]
   refine JM (kX (fun h => ?_) fun h => ?_)
   · refine aj.eq hR ?_
     have : ni l = false := by
      cases ht : ni l with
      | false => rfl
      | true => have := (tZ.1 ht).2 x (fw hx); omega
     rw [this]
   · rw [cW]
     refine ⟨bh (by omega) (by omega), l.length - (i + 1), by omega, i + 1, rfl, by omega, rfl, by simp, rfl, fun j y hj hy => ?_⟩
     by_cases qz : j = i
     · subst qz; rw [hx] at hy; cases hy; omega
     · exact bw j y (by omega) hy
 · refine aj.eq hR ?_
   have : ni l = true := tZ.2 ⟨by omega, fun x hx => by
    obtain ⟨j, hj, rfl⟩ := List.getElem_of_mem hx
    exact bw j _ (by omega) (by simp [hj])⟩
   rw [this]
theorem Jy {v : AV} {l : List Nd} (hv : Sl v l) : Pure K 24 [.agg [v]] (.bool (ni l)) := by
 refine Pure.of (by simp [bH, hv.cl]) rfl (fun U => rfl) fun R hR => ?_
 refine Lf ?_
 unfold MS
 rw [eH rfl]
 intro b1 fq
 have m1 : ((bj ⟨.e, 0⟩).new b1 (.box (au (.agg [v])))).box b1 = some [v] := aN
 generalize (bj _).new b1 _ = az at *
 refine ql (dx m1 rfl ((yz hv.s).go ?_))
 exact aj.mk (hR _)
theorem Sr {mu : Bool} {e sz m : Nat} {y : AV} {l2 : List AV} {U : St} {K' : AV -> St -> Prop} {Kp : AV -> St -> Prop} (hy : nL U y = some (m, l2)) (hl : l2.length = m * sz) (hb : m <= 4294967296)
 (h0 : m = 0 -> K' .aq U) (h1 : m ≠ 0 -> mu = true -> ∀ b, U.cj b -> K' (.ms b 0 m sz e) (U.new b (.box l2))) (h2 : m ≠ 0 -> mu = false -> ∀ b, U.cj b -> K' (.vec m (.own b) l2) (U.new b (.tok ⟨m, e, sz⟩))) : (eN (some (e, sz)) mu .aq y U).wp K U K' Kp := by
 simp only [eN, hy, wp_cond]
 refine ⟨hl, ?_⟩
 by_cases hm : m = 0
 · rw [if_pos hm, ag]; exact h0 hm
 · rw [if_neg hm, wp_cond]
   refine ⟨hb, ?_⟩
   cases mu with
   | true => exact fun b dz => h1 hm rfl b dz
   | false => exact fun b dz => h2 hm rfl b dz
theorem CV {n b k z e : Nat} {U : St} {L : List AV} (h : U.box b = some L) : resolve (n + 1) U (.ms b 0 k z e) = .vec k .gq (L.map (resolve n U)) := by
 rw [resolve, h]; rfl
theorem CU {n b : Nat} {U : St} {l : List Nd} (h : U.box b = some (cR l)) (h0 : l ≠ []) : resolve (n + 2) U (.ms b 0 l.length 6 43) = vH l := by
 rw [CV h, CW, vH, if_neg h0]
theorem Ga {v : AV} {l : List Nd} (hv : Sl v l) (hl : l.length <= 100000) : Pure K 26 [.agg [v]] (.agg [vH l]) := by
 refine Pure.Rh (by simp [bH, hv.cl]) (DD l).cl fun R hR => ?_
 refine Lg ?_
 unfold MT
 rw [eH rfl]
 intro b1 fq
 have m1 : ((bj ⟨.e, 0⟩).new b1 (.box (au (.agg [v])))).box b1 = some [v] := aN
 generalize (bj _).new b1 _ = az at *
 rw [dv]
 intro b2 gK
 have m2 : (az.new b2 (.box [AV.aq])).box b2 = some [.aq] := aN
 have m1 := (bz gK (x := .box [AV.aq])).bA m1
 generalize az.new b2 (.box [AV.aq]) = bM at *
 refine ql (dx m1 rfl ?_)
 refine Sr (hv.jY _).src (p4 l ▸ by omega) (by omega) (fun h0 => ?_) (fun h1 _ b hb => ?_) (fun _ h => by cases h)
 · have : l = [] := tN.1 h0
   subst this
   refine pc [.aq] rfl ?_
   rw [dh m2]
   refine ⟨⟨rfl, rfl, by simp⟩, ?_⟩
   rw [xf aZ]
   exact ⟨by simp [aB], aj.mk (hR _ _ rfl)⟩
 · have bX := hb.ca m2
   refine pc [.ms b 0 l.length 6 43] rfl ?_
   rw [dh (show (bM.new b (.box (cR l))).box b2 = some _ by rw [ma bX]; exact m2)]
   refine ⟨⟨rfl, rfl, by simp⟩, ?_⟩
   rw [xf aZ]
   refine ⟨by simp [aB], aj.mk (hR _ _ ?_)⟩
   have Dk : ((bM.new b (.box (cR l))).set b2 (.box (aB [AV.aq] 0 (au (.agg [.ms b 0 l.length 6 43]))))).box b = some (cR l) := by
    rw [aP bX.symm, aN]
   generalize (bM.new b (.box (cR l))).set b2 _ = bN at *
   show AV.agg [resolve 4 bN (.ms b 0 l.length 6 43)] = _
   have : l ≠ [] := fun e => h1 (by rw [e]; rfl)
   rw [CU Dk this]
noncomputable def hX (l : List Nd) (p : Int) : Int := if ia l ≠ 0 then ia l else if p < 0 \/ (l.length : Int) <= p then 3 else 0
theorem yI {l : List Nd} {p : Int} (h : hX l p = 0) : ∃ (n : Nat) (t s : Tre), p = n /\ l = t.flat /\ t.kind = 1 /\ t.ok = true /\ n < l.length /\ dT l n s := by
 unfold hX at h
 split at h
 · rename_i hc; exact absurd h hc
 · rename_i hc
   split at h
   · cases h
   · rename_i hp
     have hc : ia l = 0 := Classical.not_not.1 hc
     have h9 : ¬ 900 < l.length := fun h => by unfold ia at hc; rw [if_pos h] at hc; cases hc
     have : ∃ t : Tre, l = t.flat /\ t.kind = 1 /\ t.ok = true := Classical.not_not.1 fun h => by rw [rn h9 h] at hc; cases hc
     obtain ⟨t, rfl, h1, h2⟩ := this
     obtain ⟨⟨s, _, hs, _⟩, _⟩ := place t (i := p.toNat) (by omega)
     exact ⟨p.toNat, t, s, by omega, rfl, h1, h2, by omega, hs⟩
end Go.Rip
namespace Go.Rip
open Go.Proofs Go.RowKit
theorem Cu (ks : List Nat) : bH (fM ks) = true := by
 induction ks with
 | nil => rfl
 | cons k ks ih => show bH (.int .i64 (k : Nat) :: fM ks) = true; simp [bH, closed, ih]
theorem BS (n : Nat) (U : St) (ks : List Nat) : (fM ks).map (resolve (n + 1) U) = fM ks := by
 induction ks with
 | nil => rfl
 | cons k ks ih => show .int .i64 (k : Nat) :: (fM ks).map (resolve (n + 1) U) = _; rw [ih]; rfl
def nZ (ks : List Nat) : AV := if ks = [] then .aq else .vec ks.length .gq (fM ks)
theorem Av (ks : List Nat) : closed (nZ ks) = true := by
 unfold nZ; split
 · rfl
 · exact Cu ks
theorem KI (ks : List Nat) : eS (nZ ks) ks.length (fM ks) := by
 unfold nZ; split
 · rename_i h; subst h; exact .inl ⟨rfl, rfl, rfl⟩
 · exact .inr ⟨_, rfl⟩
theorem fz.ints {az U : St} {v : AV} {ks : List Nat} (h : fz az U v 3 1 ks.length (fM ks)) (n : Nat) (τ : St) : resolve (n + 2) τ v = nZ ks := by
 unfold nZ
 split
 · rename_i e; subst e; rw [h.z rfl]; rfl
 · rename_i e
   rcases h.g with ⟨h1, _, _⟩ | ⟨t, rfl, _, _⟩
   · exact absurd (tN.1 h1) e
   · show AV.vec ks.length .gq ((fM ks).map (resolve (n + 1) τ)) = _
     rw [BS]
def fg (l : List Nd) (p : Nat) : List Nat := ej l ((p : Int) + cq l p) l.length (p + 1)
theorem lW {l : List Nd} {n : Nat} {x : Nd} (h : l[n]? = some x) : cq l n = x.size.toNat := by unfold cq; rw [h]; rfl
theorem pw {l : List Nd} {n : Nat} {s : Tre} (h : dT l n s) : fg l n = bR (n + 1) s.kids := by
 obtain ⟨x, hx, _, hs, _⟩ := h.mK
 unfold fg
 rw [lW hx, show (x.size.toNat : Int) = s.flat.length by omega]
 exact vE h
noncomputable def px (l : List Nd) (p : Int) : List Nat := if hX l p = 0 then fg l p.toNat else []
def mG (l : List Nd) (p : Nat) : Nat -> Nat
 | 0 => 0
 | i + 1 => if i + 1 + cq l (i + 1) <= p then mG l p i else i + 1
noncomputable def sI (l : List Nd) (p : Int) : Nat × Int := if hX l p ≠ 0 then (0, hX l p) else if p = 0 then (0, 7) else (mG l p.toNat (p.toNat - 1), 0)
theorem nY {t : Tre} : sO t.flat := ((zx t.flat).2 ⟨t, rfl⟩).1
end Go.Rip
namespace Go.Rip
open Go.Proofs Go.RowKit
theorem Ch {a b n : Int} {U : St} {K' : AV -> St -> Prop} {Kp : AV -> St -> Prop} (h : K' (.bool (decide (a <= n /\ n <= b))) U) : ae K 122 [.int .i64 a, .int .i64 b, .int .i64 n] U (al K' Kp) := (ln a b n).go h
theorem ri {l : List Nd} {p : Int} (h : ia l ≠ 0) : hX l p = ia l := by unfold hX; rw [if_pos h]
theorem Al {l : List Nd} {p : Int} (h : ia l = 0) (hp : ¬ (0 <= p /\ p <= (l.length : Int) - 1)) : hX l p = 3 := by unfold hX; rw [if_neg (by simp [h]), if_pos (by omega)]
theorem ui {l : List Nd} {p : Int} (h : ia l = 0) (hp : 0 <= p /\ p <= (l.length : Int) - 1) : hX l p = 0 := by unfold hX; rw [if_neg (by simp [h]), if_neg (by omega)]
def DX (R : cm -> St -> Prop) (z : AV) : cm -> St -> Prop := fun r U => ∃ x e, r = .ret (.aL [x, .int .i64 e]) /\ (e ≠ 0 -> R (.ret (.aL [z, .int .i64 e])) U) /\ (e = 0 -> R (.ret (.aL [x, .int .i64 0])) U)
section
variable {U : St} {R : cm -> St -> Prop} {v : AV} {l : List Nd} {p : Int} {g : FuncId} {fs cs : List AV}
theorem JO (hg : cX K.P g = true) {a : List AV} {K' : AV -> St -> Prop} {Kp : AV -> St -> Prop} : (eT K.P (.func (.func g) fs cs) a).wp K U K' Kp = ae K g (fs ++ a ++ cs) U (al K' Kp) := by
 simp only [eT, hg, if_true, gI]
theorem Df {z : AV} {ad : St} {a : List AV} (h : ae K g a ad (DX R z)) :
 ae K g a ad (al (fun dS U => (aV dS 0).wp K U (fun v30 U => (aV dS 1).wp K U (fun v31 U => (aw .neq (BT.mk false false false none false) true v31 (AV.int .i64 0)).wp K U (fun fD U =>
  ay fD (aj R (AV.aL [z, v31]) U) (aj R (AV.aL [v30, (AV.int .i64 0)]) U)) (aa R)) (aa R)) (aa R)) (aa R)) := by
 refine h.mono fun r τ hr => ?_
 obtain ⟨x, e, rfl, h1, h2⟩ := hr
 simp only [bB, bP, List.drop, bD, cL, ag]
 by_cases he : e = 0
 · simp only [he, cV, cu]
   exact dP (aj.mk (h2 he))
 · simp only [he, db, dJ]
   exact dF (aj.mk (h1 he))
theorem RV (hv : Sl v l) (hl : l.length <= 10000) (jM : ∀ x ∈ l, x.text.length <= 3000) (hg : cX K.P g = true)
 (h0 : hX l p ≠ 0 -> ∀ ad, cF U ad -> R (.ret (.aL [.aq, .int .i64 (hX l p)])) ad)
 (h1 : hX l p = 0 -> ∀ ad, cF U ad -> ae K g (fs ++ [.agg [v]] ++ cs) ad (DX R .aq)) : ae K 78 [.agg [v], .int .i64 p, .func (.func g) fs cs] U R := by
 refine Lt ?_
 unfold M9
 rw [eH rfl]
 intro b1 fq
 have m1 : (U.new b1 (.box (au (.agg [v])))).box b1 = some [v] := aN
 have e1 := bz fq (x := .box (au (.agg [v])))
 generalize U.new b1 _ = bM at *
 refine oh m1 ((rm hv.s hv.c hl jM).go ?_)
 rw [cL, ag]
 by_cases hc : ia l = 0
 rotate_left
 · simp only [hc, db, dJ]
   refine dF (aj.mk ?_)
   rw [<- ri (p := p) hc]
   exact h0 (by rw [ri hc]; exact hc) _ e1
 simp only [hc, cV, cu]
 refine dP (ql (dx m1 rfl ?_))
 rw [hv.s.len, ag, fL, dI, wp_cond, ag]
 refine ⟨bh (by omega) (by omega), Ch ?_⟩
 simp only [dm, ag]
 by_cases hp : 0 <= p /\ p <= (l.length : Int) - 1
 rotate_left
 · simp only [hp, db, dJ]
   refine dF (aj.mk ?_)
   have := Al hc hp
   rw [<- this]
   exact h0 (by rw [this]; decide) _ e1
 simp only [hp, and_self, cV, cu]
 refine dP (oh m1 (pc [v] rfl ?_))
 rw [JO hg]
 exact Df (h1 (ui hc hp) _ e1)
theorem RW (hv : Sl v l) (hl : l.length <= 10000) (jM : ∀ x ∈ l, x.text.length <= 3000) (hg : cX K.P g = true)
 (h0 : hX l p ≠ 0 -> ∀ ad, cF U ad -> R (.ret (.aL [.int .i64 0, .int .i64 (hX l p)])) ad)
 (h1 : hX l p = 0 -> ∀ ad, cF U ad -> ae K g (fs ++ [.agg [v]] ++ cs) ad (DX R (.int .i64 0))) : ae K 82 [.agg [v], .int .i64 p, .func (.func g) fs cs] U R := by
 refine Lx ?_
 unfold Nf
 rw [eH rfl]
 intro b1 fq
 have m1 : (U.new b1 (.box (au (.agg [v])))).box b1 = some [v] := aN
 have e1 := bz fq (x := .box (au (.agg [v])))
 generalize U.new b1 _ = bM at *
 refine oh m1 ((rm hv.s hv.c hl jM).go ?_)
 rw [cL, ag]
 by_cases hc : ia l = 0
 rotate_left
 · simp only [hc, db, dJ]
   refine dF (aj.mk ?_)
   rw [<- ri (p := p) hc]
   exact h0 (by rw [ri hc]; exact hc) _ e1
 simp only [hc, cV, cu]
 refine dP (ql (dx m1 rfl ?_))
 rw [hv.s.len, ag, fL, dI, wp_cond, ag]
 refine ⟨bh (by omega) (by omega), Ch ?_⟩
 simp only [dm, ag]
 by_cases hp : 0 <= p /\ p <= (l.length : Int) - 1
 rotate_left
 · simp only [hp, db, dJ]
   refine dF (aj.mk ?_)
   have := Al hc hp
   rw [<- this]
   exact h0 (by rw [this]; decide) _ e1
 simp only [hp, and_self, cV, cu]
 refine dP (oh m1 (pc [v] rfl ?_))
 rw [JO hg]
 exact Df (h1 (ui hc hp) _ e1)
end
theorem D9 {v : AV} {l : List Nd} {n : Nat} {en : Int} {bn be bt : Nat} {U : St} {R : cm -> St -> Prop} (hv : eS v l.length (cR l)) (hn : n < l.length) (hl : l.length <= 10000) (Mi : en <= l.length) (cY : ∀ (i : Nat) (x : Nd), l[i]? = some x -> x.size <= 100000)
 (mn : U.box bn = some [.int .i64 (n : Nat)]) (me : U.box be = some [.int .i64 en]) (mt : U.box bt = some [v])
 (h : ∀ ad v', fz (bj ⟨.e, 0⟩) ad v' 3 1 (ej l en l.length (n + 1)).length (fM (ej l en l.length (n + 1))) -> R (.ret v') ad) : ae K 80 [.func (.func 155) [] [.box bn 0, .box be 0, .box bt 0]] U R := by
 refine Lv ?_
 unfold Nb
 refine Il ?_
 unfold Ik
 rw [eH rfl]
 intro b2 gK
 have m2 : (U.new b2 (.box (au .aq))).box b2 = some [.aq] := aN
 have QK := gK.ca mn
 have XQ := gK.ca me
 have YA := gK.ca mt
 have mn := (bz gK (x := .box (au .aq))).bA mn
 have me := (bz gK (x := .box (au .aq))).bA me
 have mt := (bz gK (x := .box (au .aq))).bA mt
 generalize U.new b2 (.box (au .aq)) = bM at *
 refine rZ (fun ks ad => (ad.box bn = some [.int .i64 (n : Nat)] /\ ad.box be = some [.int .i64 en] /\ ad.box bt = some [v]) /\ ∃ vk, ad.box b2 = some [vk] /\ fz (bj ⟨.e, 0⟩) ad vk 3 1 ks.length (fM ks)) (fun _ => False) hv hn (by omega) Mi
  (fun ks ad hI => hI.1) (fun ks ad o L L' hI ho => ?_) (fun ks ad o L hI ho => ?_) (fun ad o L L' hJ ho => hJ) (fun ks jY y ad o L1 q hI hy aH lB U2 Dr tl hL QM U7 => ?_) (fun ks ad o L iD hI hL => ?_) (fun ad o L hJ hL => hJ.elim) ⟨⟨mn, me, mt⟩, _, m2, fz.nil (wy _)⟩
 · obtain ⟨⟨h1, h2, h3⟩, vk, iE, kD⟩ := hI
   exact ⟨⟨by rw [aP (bE h1 ho)]; exact h1, by rw [aP (bE h2 ho)]; exact h2, by rw [aP (bE h3 ho)]; exact h3⟩, vk, by rw [aP (bE iE ho)]; exact iE, kD.loop ho (wy _)⟩
 · obtain ⟨⟨h1, h2, h3⟩, vk, iE, kD⟩ := hI
   have e := bz ho (x := .loop L)
   exact ⟨⟨e.bA h1, e.bA h2, e.bA h3⟩, vk, e.bA iE, kD.mono e⟩
 · obtain ⟨⟨h1, h2, h3⟩, vk, iE, kD⟩ := hI
   refine dx iE rfl ?_
   refine Ui rfl rfl ?_
   refine JK kD (m := 1) (l2 := [.int .i64 (jY : Nat)]) rfl rfl (by omega) (by omega) fun bN v' g2 k2 => ?_
   have jL : ∀ b z, ad.box b = some z -> bN.box b = some z := fun b z hb => by
    cases sy : ad.live b with
    | none => exact absurd sy (dy hb)
    | some w =>
      have := k2 b w (fun n' l' pt => by
       rcases kD.g with ⟨_, _, h3⟩ | ⟨τ, r1, r2, _⟩
       · rw [h3] at pt; cases pt
       · rw [r1] at pt; cases pt; exact eh hb r2 rfl) sy
      rw [eU (this.trans sy.symm)]; exact hb
   have nH := jL _ _ iE
   have kY : v'.cr = true /\ au v' = [v'] := by
    rcases g2.g with ⟨h0, _, _⟩ | ⟨τ, r1, _, _⟩
    · omega
    · rw [r1]; exact ⟨rfl, rfl⟩
   rw [dh nH]
   refine ⟨⟨kY.1, by rw [kY.2]; rfl, by simp⟩, ?_⟩
   refine QM _ ⟨⟨?_, ?_, ?_⟩, v', ?_, ?_⟩ (cY _ _ hy) ?_
   · rw [aP QK]; exact jL _ _ h1
   · rw [aP XQ]; exact jL _ _ h2
   · rw [aP YA]; exact jL _ _ h3
   · rw [aZ, kY.2]; rfl
   · have : fz (bj ⟨.e, 0⟩) (bN.set b2 (.box (aB [vk] 0 (au v')))) v' 3 1 (ks.length + 1) (fM ks ++ [.int .i64 (jY : Nat)]) := by
      refine ⟨?_, g2.z, g2.t, wy _⟩
      rcases g2.g with g | ⟨τ, r1, r2, r3⟩
      · exact .inl g
      · exact .inr ⟨τ, r1, by rw [gn (eh nH r2).symm]; exact r2, r3⟩
     simpa [fM] using this
   · obtain ⟨_, kl⟩ := te kD.g k2
     rw [eE]; exact kl hL
     rw [dM, if_neg (bE nH (kl hL)).symm]
 · obtain ⟨⟨h1, h2, h3⟩, vk, iE, kD⟩ := hI
   have nH : (ad.del o).box b2 = some [vk] := by rw [gi (bE iE hL)]; exact iE
   refine dx nH rfl (aj.mk ?_)
   refine aj.mk (h _ _ ?_)
   rw [<- iD]
   refine ⟨?_, kD.z, kD.t, wy _⟩
   rcases kD.g with g | ⟨τ, r1, r2, r3⟩
   · exact .inl g
   · exact .inr ⟨τ, r1, by rw [Fz (qd r2 hL)]; exact r2, r3⟩
end Go.Rip
namespace Go.Rip
open Go.Proofs Go.RowKit
section
variable {v : AV} {l : List Nd}
theorem G7 (hv : Sl v l) (hl : l.length <= 10000) (jM : ∀ x ∈ l, x.text.length <= 3000) (p : Int) : Pure K 35 [.agg [v], .int .i64 p] (.aL [nZ (px l p), .int .i64 (hX l p)]) := by
 refine Pure.Rh (by simp [bH, hv.cl, show closed (.int .i64 p) = true from rfl]) (by simp [closed, bH, Av]) fun R hR => ?_
 refine Lj ?_
 unfold MW
 rw [eH rfl]
 intro b1 fq
 have m1 : ((bj ⟨.e, 0⟩).new b1 (.box (au (.agg [v])))).box b1 = some [v] := aN
 generalize (bj _).new b1 _ = az at *
 rw [eH rfl]
 intro b2 gK
 have m2 : (az.new b2 (.box (au (.int .i64 p)))).box b2 = some [.int .i64 p] := aN
 have m1 := (bz gK (x := .box (au (.int .i64 p)))).bA m1
 generalize az.new b2 _ = bM at *
 refine oh m1 (dx m2 rfl ?_)
 have fin : ∀ (x : AV) (e : Int) (ad : St), (∀ τ, resolve 4 τ x = nZ (px l p)) -> e = hX l p -> al (fun v9 U => (aV v9 0).wp K U (fun v10 U => (aV v9 1).wp K U (fun v11 U => aj R (AV.aL [v10, v11]) U) (aa R)) (aa R)) (aa R) (.ret (.aL [x, .int .i64 e])) ad := by
  intro x e ad hx he
  simp only [bB, bP, List.drop, bD]
  refine aj.mk (hR _ _ ?_)
  subst he
  show AV.aL [resolve 4 ad x, _] = _
  rw [hx]; rfl
 refine RV (fs := []) (cs := [.box b2 0]) hv hl jM (by kernel_rfl) (fun ha bN e2 => ?_) (fun ha bN e2 => ?_)
 · refine fin _ _ _ (fun τ => ?_) rfl
   have : px l p = [] := by unfold px; rw [if_neg ha]
   rw [this]; rfl
 have m2 := e2.bA m2
 show ae K 79 [.agg [v], .box b2 0] bN _
 refine Lu ?_
 unfold Na
 rw [eH rfl]
 intro b3 il
 have m3 : (bN.new b3 (.box (au (.agg [v])))).box b3 = some [v] := aN
 have m2 := (bz il (x := .box (au (.agg [v])))).bA m2
 generalize bN.new b3 _ = cC at *
 refine oh m3 (dx m2 rfl ?_)
 obtain ⟨n, t, s, rfl, rfl, h1, h2, h3, hs⟩ := yI ha
 obtain ⟨x, hx, _, MD, _⟩ := hs.mK
 have hle := hs.le
 refine vF hv.s hx (bh (by omega) (by omega)) fun bn be bt cU d1 d2 d3 f1 f2 f3 q1 q2 q3 e4 => ?_
 rw [bB]
 refine D9 hv.s h3 hl (by omega) (fun i y hy => by have := nY.2.2 i y hy; omega) q1 q2 q3 fun dw v5 g5 => ?_
 rw [bB]
 have hk : px t.flat n = ej t.flat ((n : Int) + x.size) t.flat.length (n + 1) := by
  unfold px fg; rw [if_pos ha, eF, lW hx, show (x.size.toNat : Int) = x.size by omega]
 rw [<- hk] at g5
 refine aj.mk ⟨v5, 0, rfl, fun h => absurd rfl h, fun _ => fin _ _ _ (fun τ => g5.ints _ _) ha.symm⟩
theorem Rl {U : St} {R : cm -> St -> Prop} {p : Nat} (hv : eS v l.length (cR l)) (hs : sO l) (hl : l.length <= 10000) (h0 : 0 < p) (hp : p < l.length) (h : ∀ ad, cF U ad -> R (.ret (.int .i64 (mG l p (p - 1) : Nat))) ad) : ae K 85 [.agg [v], .int .i64 (p : Nat)] U R := by
 refine Lz ?_
 unfold Nh
 rw [eH rfl]
 intro b2 gK
 have m2 : (U.new b2 (.box (au (.agg [v])))).box b2 = some [v] := aN
 have e2 := bz gK (x := .box (au (.agg [v])))
 generalize U.new b2 _ = bM at *
 rw [fL, dI, wp_cond, ag]
 refine ⟨bh (by omega) (by omega), ?_⟩
 refine ⟨fun m v1 v2 v5 ad => ∃ i : Nat, m = i /\ i < p /\ v1 = .int .i64 (p : Nat) /\ v2 = .box b2 0 /\ v5 = .int .i64 (i : Nat) /\ ad = bM /\ mG l p i = mG l p (p - 1), ⟨_, p - 1, rfl, by omega, rfl, rfl, by congr 1; omega, rfl, rfl⟩, ?_⟩
 rintro m v1 v2 v5 ad ⟨i, rfl, hi, rfl, rfl, rfl, rfl, hu⟩
 obtain ⟨x, hx⟩ : ∃ x, l[m]? = some x := ⟨l[m]'(by omega), by simp [show m < l.length by omega]⟩
 have MD := hs.2.2 m x hx
 refine ql (ql (dx m2 rfl ?_))
 refine L9 hv.KL hx (show (cS x)[5]? = some (.int .i64 x.size) from rfl) ?_
 rw [cW]
 refine ⟨bh (by omega) (by omega), ?_⟩
 rw [hZ, ag]
 have Ba := lW hx
 refine kX (fun hle => ?_) fun tk => ?_
 · have hm : m ≠ 0 := by
    rintro rfl
    have := hs.2.1
    cases l with
    | nil => simp at hx
    | cons y r =>
      simp at hx; subst hx
      simp only [jo] at this
      omega
   rw [fL, dI, wp_cond, ag]
   refine ⟨bh (by omega) (by omega), m - 1, by omega, m - 1, rfl, by omega, rfl, rfl, by congr 1; omega, rfl, ?_⟩
   rw [<- hu]
   obtain ⟨k, rfl⟩ : ∃ k, m = k + 1 := ⟨m - 1, by omega⟩
   rw [Nat.add_sub_cancel, mG, if_pos (by omega)]
 · refine aj.eq (h _ e2) ?_
   rw [<- hu]
   cases m with
   | zero => rfl
   | succ k => rw [mG, if_neg (by omega)]
theorem OD (hv : Sl v l) (hl : l.length <= 10000) (jM : ∀ x ∈ l, x.text.length <= 3000) (p : Int) : Pure K 38 [.agg [v], .int .i64 p] (.aL [.int .i64 (sI l p).1, .int .i64 (sI l p).2]) := by
 refine Pure.of (by simp [bH, hv.cl, show closed (.int .i64 p) = true from rfl]) rfl (fun U => rfl) fun R hR => ?_
 refine Lk ?_
 unfold MX
 rw [eH rfl]
 intro b1 fq
 have m1 : ((bj ⟨.e, 0⟩).new b1 (.box (au (.agg [v])))).box b1 = some [v] := aN
 generalize (bj _).new b1 _ = az at *
 rw [eH rfl]
 intro b2 gK
 have m2 : (az.new b2 (.box (au (.int .i64 p)))).box b2 = some [.int .i64 p] := aN
 have m1 := (bz gK (x := .box (au (.int .i64 p)))).bA m1
 generalize az.new b2 _ = bM at *
 refine oh m1 (dx m2 rfl ?_)
 have fin : ∀ (x e : Int) (ad : St), ((sI l p).1 : Int) = x -> (sI l p).2 = e -> al (fun v9 U => (aV v9 0).wp K U (fun v10 U => (aV v9 1).wp K U (fun v11 U => aj R (AV.aL [v10, v11]) U) (aa R)) (aa R)) (aa R) (.ret (.aL [.int .i64 x, .int .i64 e])) ad := by
  intro x e ad hx he
  subst hx he
  simp only [bB, bP, List.drop, bD]
  exact aj.mk (hR _)
 refine RW (fs := []) (cs := [.box b2 0]) hv hl jM (by kernel_rfl) (fun ha bN e2 => ?_) (fun ha bN e2 => ?_)
 · have hu : sI l p = (0, hX l p) := by unfold sI; rw [if_pos ha]
   exact fin _ _ _ (by rw [hu]; rfl) (by rw [hu])
 have m2 := e2.bA m2
 show ae K 84 [.agg [v], .box b2 0] bN _
 refine Ly ?_
 unfold Ng
 rw [eH rfl]
 intro b3 il
 have m3 : (bN.new b3 (.box (au (.agg [v])))).box b3 = some [v] := aN
 have m2 := (bz il (x := .box (au (.agg [v])))).bA m2
 generalize bN.new b3 _ = cC at *
 refine dx m2 rfl ?_
 rw [bf, ag]
 refine kX (fun h => ?_) fun h => ?_
 · have hu : sI l p = (0, 7) := by unfold sI; rw [if_neg (by simp [ha]), if_pos h]
   refine aj.mk ⟨_, _, rfl, fun _ => fin _ _ _ (by rw [hu]; rfl) (by rw [hu]), fun h => by cases h⟩
 · have hu : sI l p = (mG l p.toNat (p.toNat - 1), 0) := by unfold sI; rw [if_neg (by simp [ha]), if_neg h]
   refine oh m3 (dx m2 rfl ?_)
   obtain ⟨n, t, s, rfl, rfl, h1, h2, h3, hs⟩ := yI ha
   refine Rl hv.s nY hl (by omega) h3 fun cU e4 => ?_
   rw [bB]
   rw [eF] at hu
   refine aj.mk ⟨_, _, rfl, fun h => absurd rfl h, fun _ => fin _ _ _ (by rw [hu]) (by rw [hu])⟩
end
end Go.Rip
namespace Go.Rip
open Go.Proofs Go.RowKit
theorem NX {l : List Nd} {p : Nat} : (fg l p).length <= l.length := rG _ _ _ _
end Go.Rip
