/- Lemmas for the proof: no conditions. -/
import Derived.Test.YtnfpmiiopiinbaaGreatDoorRipZz
import Derived.Test.YtnfpmiiopiinbaaGreatDoorRipO
import Derived.Test.YtnfpmiiopiinbaaGreatDoorRipP
import Derived.Test.YtnfpmiiopiinbaaGreatDoorRipI
import Derived.Test.YtnfpmiiopiinbaaGreatDoorRipK
set_option linter.unusedVariables false
set_option linter.unusedSimpArgs false
set_option linter.loopingSimpArgs false
namespace Go.Rip
open Go.Proofs Go.RowKit
def cT (x : Nd) : List AV := [.int .u8 x.kind, .str x.text, .int .i64 x.n, .int .i64 x.m, .int .i64 x.at_, .int .i64 x.size]
def cw (l : List Nd) : List AV := l.flatMap cT
theorem jv (L : List Nd) : (cw L).length = 6 * L.length := by
 induction L with
 | nil => rfl
 | cons t L ih =>
   have : (cw (t :: L)).length = 6 + (cw L).length := by simp [cw, cT]; omega
   rw [this, ih, jy]; omega
theorem JD (L : List Nd) (i : Nat) : (cw L).drop (i * 6) = cw (L.drop i) := by
 induction L generalizing i with
 | nil => simp [cw]
 | cons t L ih =>
   cases i with
   | zero => simp
   | succ i =>
     rw [Nat.add_mul, show i * 6 + 1 * 6 = 6 + i * 6 by omega, <- List.drop_drop, List.drop_succ_cons, <- ih]
     rfl
theorem wy {L : List Nd} {i : Nat} {t : Nd} (h : L[i]? = some t) : ∃ r, (cw L).drop (i * 6) = cT t ++ r := by
 rw [JD, fN (dm.1 h).1]
 refine ⟨cw (L.drop (i + 1)), ?_⟩
 have := (dm.1 h).2
 simp [cw, this]
section
variable {C : cu} {U : St} {K' : AV -> St -> Prop} {Kp : AV -> St -> Prop} {e sz n b m : Nat} {L l2 z : List AV} {y : AV}
theorem BE {ps : List (Nat × AV)} : (aP (some (e, sz)) (some z) n true ps).wp C U K' Kp = (n * sz <= 16777216 /\ (eK (fun i => some (i * sz, sz)) ps (bL n z) fun cs => .cond (cs.length = n * sz) (.lZ n sz e none cs)).wp C U K' Kp) := by
 simp only [aP, if_true]; rfl
theorem Gl {pl : Nat -> Option (Nat × Nat)} {k : Nat} : (eK pl [] L fun cs => .cond (cs.length = k) (.lZ n sz e none cs)).wp C U K' Kp = (L.length = k /\ ∀ b, U.cQ b -> K' (.ms b 0 n sz e) (U.new b (.box L))) := rfl
theorem MW {mu : Bool} (hb : U.box b = some L) (hy : px U y = some (m, l2)) (h : l2.length = m * sz /\ n * sz <= L.length /\ n + m <= 4294967296) (hk : ∀ b', (U.del b).cQ b' -> K' (.ms b' 0 (n + m) sz e) ((U.del b).new b' (.box (L.take (n * sz) ++ l2)))) : (eZ (some (e, sz)) mu (.ms b 0 n sz e) y U).wp C U K' Kp := by
 simp only [eZ, hy, hb, wp_cond]
 exact ⟨h.1, ⟨trivial, trivial, trivial, h.2.1, h.2.2⟩, hk⟩
end
theorem dY.split {ks : List AV} {l : List Nd} {a : AV} {i : Nat} (h : dY true (ks.drop i) l) (ha : ks[i]? = some a) : ∃ l1 l2, l = l1 ++ l2 /\ dY false [a] l1 /\ dY true (ks.drop (i + 1)) l2 := by
 obtain ⟨aJ, rfl⟩ := dm.1 ha
 rw [fN aJ] at h
 generalize hb : true = b at h
 generalize hl : ks[i] :: ks.drop (i + 1) = la at h
 cases h with
 | mk _ _ => cases hb
 | nil => cases hl
 | cons h1 h2 => cases hl; exact ⟨_, _, rfl, h1, h2⟩
theorem dY.le : ∀ {ks : List AV} {l : List Nd}, dY true ks l -> ks.length <= l.length
 | [], _, _ => by simp
 | a :: ks, l, h => by
   obtain ⟨l1, l2, rfl, h1, h2⟩ := dY.split (ks := a :: ks) (a := a) (i := 0) h rfl
   obtain ⟨x, r, e, _⟩ := h1.size
   have := dY.le (ks := ks) h2
   rw [e]; simp; omega
end Go.Rip
namespace Go.Rip
open Go.Proofs Go.RowKit
theorem eB.Yu {v : AV} {l : List Nd} (h : eB v l.length (cw l)) {i : Nat} {x : Nd} (hx : l[i]? = some x) {e : Nat} : ∃ r, aG (some (e, 6)) none v (.int .i64 (i : Int)) = .cond (0 <= (i : Int) /\ (i : Int) < l.length) (.val (.cj (cT x ++ r))) := by
 obtain ⟨c, rfl, kJ⟩ := h.at (sz := 6) (e := e) (dm.1 hx).1
 obtain ⟨r, hr⟩ := wy hx
 exact ⟨r, by rw [kJ, hr]⟩
section
variable {C : cu} {U : St} {K' : AV -> St -> Prop} {Kp : AV -> St -> Prop} {k : AV -> Prop} {v : AV} {l : List Nd} {i e : Nat} {x : Nd}
theorem HT (h : eB v l.length (cw l)) (hx : l[i]? = some x) (hk : ∀ r, K' (.cj (cT x ++ r)) U) : (aG (some (e, 6)) none v (.int .i64 (i : Int))).wp C U K' Kp := by
 obtain ⟨r, hr⟩ := h.Yu hx (e := e)
 rw [hr]
 have := (dm.1 hx).1
 exact ⟨by omega, hk r⟩
theorem Ae (h : eB v l.length (cw l)) (hx : l[i]? = some x) (hk : ∀ r, k (.cj (cT x ++ r))) : aC C (aG (some (e, 6)) none v (.int .i64 (i : Int))) k := by
 obtain ⟨r, hr⟩ := h.Yu hx (e := e)
 rw [hr]
 have := (dm.1 hx).1
 exact ⟨by omega, hk r⟩
end
theorem eB.cS {v : AV} {n : Nat} {cs : List AV} (h : eB v n cs) : v.cS = true /\ ax v = [v] := by
 rcases h with ⟨rfl, rfl, rfl⟩ | ⟨c, rfl⟩ <;> exact ⟨rfl, rfl⟩
theorem xM {U : St} {R : cB -> St -> Prop} {v : AV} {l : List Nd} {n : Nat} {x : Nd} (hv : eB v l.length (cw l)) (hx : l[n]? = some x) (h64 : uy ((n : Int) + x.size))
 (h : ∀ bn be bt ae, bn ≠ be -> bn ≠ bt -> be ≠ bt -> U.live bn = none -> U.live be = none -> U.live bt = none -> ae.box bn = some [.int .i64 (n : Nat)] -> ae.box be = some [.int .i64 ((n : Int) + x.size)] -> ae.box bt = some [v] -> cJ U ae -> R (.ret (.func (.func 155) [] [.box bn 0, .box be 0, .box bt 0])) ae) : af K 81 [.agg [v], .int .i64 (n : Nat)] U R := by
 refine OO ?_
 unfold QH
 rw [eA rfl]
 intro bt YM
 rw [eA rfl]
 intro bn ID
 have mt : (U.new bt (.box (ax (.agg [v])))).box bt = some [v] := aL
 have e1 := bm YM (x := .box (ax (.agg [v])))
 have fr1 : U.live bt = none := YM.1
 generalize U.new bt (.box (ax (.agg [v]))) = bJ at *
 have e2 := bm ID (x := .box (ax (.int .i64 (n : Nat))))
 have mn : (bJ.new bn (.box (ax (.int .i64 (n : Nat))))).box bn = some [.int .i64 (n : Nat)] := aL
 have ntn := ID.bZ mt
 have fr2 : U.live bn = none := e1.fresh ID.1
 generalize bJ.new bn (.box (ax (.int .i64 (n : Nat)))) = bX at *
 have Vr := e2.bo mt
 simp only [lK mn, dX, fB, aU, aw, ck, lK Vr]
 refine Ae hv hx fun r => ?_
 simp only [dr, aw, cT, jV, List.drop, oa, fB, zd]
 refine ⟨h64, ?_⟩
 rw [cx]
 intro be sE
 have e3 := bm sE (x := .box [.int .i64 0])
 have me : (bX.new be (.box [.int .i64 0])).box be = some [.int .i64 0] := aL
 have Vw := sE.bZ mn
 have VA := sE.bZ Vr
 have Yy : U.live be = none := (e1.trans e2).fresh sE.1
 refine ⟨?_, ?_⟩
 · intro b hb
   simp only [dM, jA, jU, ep, fC, List.not_mem_nil, or_false] at hb
   have : b = bn \/ b = bt := by
    rcases hb with h | h | h <;> simp_all
   rw [ng]
   rcases this with rfl | rfl
   · rw [if_neg Vw]
   · rw [if_neg VA]
 · rw [cA me]
   refine ⟨⟨rfl, rfl, by simp⟩, aj.mk (h bn be bt _ Vw ntn.symm VA.symm fr2 Yy fr1 ?_ ?_ ?_ ((e1.trans (e2.trans e3)).set Yy))⟩
   · rw [aN Vw]; exact e3.bo mn
   · rw [aS]; rfl
   · rw [aN VA]; exact e3.bo Vr
theorem tL (l : List Nd) (en : Int) : ∀ (f p : Nat), (fA l en f p).length <= f
 | 0, _ => by simp [fA]
 | f + 1, p => by
   simp only [fA]
   split
   · split
     · have := tL l en f (p + (Nd.size ‹_›).toNat)
       simp; omega
     · simp
   · simp
theorem ue {v : AV} {l : List Nd} {n : Nat} {en : Int} {bn be bt : Nat} {U : St} {B : AV -> Qr -> St -> Prop} {Kn : St -> Prop} {Ke : Nat -> St -> Prop} {Kr : St -> Prop} {Kp : AV -> St -> Prop} (I : List Nat -> St -> Prop) (J : St -> Prop)
 (hv : eB v l.length (cw l)) (hn : n < l.length) (hlen : l.length <= 100000) (PH : en <= l.length)
 (NL : ∀ ks U, I ks U -> U.box bn = some [.int .i64 (n : Nat)] /\ U.box be = some [.int .i64 en] /\ U.box bt = some [v])
 (PQ : ∀ ks U o L L', I ks U -> U.loop o = some L -> I ks (U.set o (.loop L')))
 (na : ∀ ks U o L, I ks U -> U.cQ o -> I ks (U.new o (.loop L)))
 (hJ : ∀ U o L L', J U -> U.loop o = some L -> J (U.set o (.loop L')))
 (body : ∀ (ks : List Nat) (eO : Nat) (x : Nd) (bJ : St) (o : Nat) (L1 : eY) (q : Qr), I ks bJ -> l[eO]? = some x -> (eO : Int) < en -> 0 < x.size -> n < eO -> ks.length < l.length -> (∃ r, fA l en l.length (n + 1) = ks ++ eO :: r) -> bJ.loop o = some L1 ->
   (∀ bX, I (ks ++ [eO]) bX -> x.size <= 100000 -> bX.loop o = some L1 -> q.n bX) -> (∀ bX, J bX -> bX.loop o = some L1 -> q.r bX) -> B (.int .i64 (eO : Nat)) q bJ)
 (fin : ∀ ks bJ o L, ks = fA l en l.length (n + 1) -> I ks bJ -> bJ.loop o = some L -> Kn (bJ.del o))
 (ZY : ∀ bJ o L, J bJ -> bJ.loop o = some L -> Kr (bJ.del o))
 (h0 : I [] U) : qO K 1 (.func (.func 155) [] [.box bn 0, .box be 0, .box bt 0]) U (fun v q U => q.Du (fun U => B v q U) U) Kn Ke Kr Kp := by
 refine ⟨by kernel_rfl, fun o L ho IA Un Y => ?_⟩
 have I1 := na _ _ o L h0 ho
 have L8 := xk (U := U) (b := o) (L := L)
 generalize U.new o (.loop L) = bJ at *
 refine K8 ?_
 unfold K7
 rw [ff (NL _ _ I1).1, dX, bG, cq]
 refine ⟨aZ (by omega) (by omega), ?_⟩
 refine ⟨fun m v0 v2 v3 v5 ae => ∃ ks f p, m = l.length - p /\ v0 = .pj o /\ v2 = .box be 0 /\ v3 = .box bt 0 /\ v5 = .int .i64 (p : Nat) /\ n < p /\ p <= 300000 /\ l.length - p <= f /\ ks ++ fA l en f p = fA l en l.length (n + 1) /\ I ks ae /\ ∃ L1, ae.loop o = some L1 /\ L1.st .ready none = L /\ L1.state = .ready /\ L1.eJ = none,
  ⟨_, [], l.length, n + 1, rfl, rfl, rfl, rfl, by simp, by omega, by omega, by omega, rfl, I1, L, L8, by cases L; simp_all [eY.st], IA, Un⟩, ?_⟩
 clear I1 L8
 rintro m v0 v2 v3 v5 bX ⟨ks, f, p, rfl, rfl, rfl, rfl, rfl, hnp, hp3, hf, gL, I2, L1, pb, eW, C5, AZ⟩
 obtain ⟨k1, k2, k3⟩ := NL _ _ I2
 rw [ff k2, dX, bG]
 simp only [bj, ai, aI, aB]
 have stop : fA l en f p = [] -> aj (JV o Kn Ke Kr Kp) (.aQ []) bX := fun h => by
  rw [h, jU] at gL
  refine aj.mk ⟨L1, pb, by rw [C5]; simp, ?_⟩
  rw [AZ]
  exact fin ks bX o L1 gL I2 pb
 by_cases aJ : (p : Int) < en
 · have pC : p < l.length := by omega
   obtain ⟨x, hx⟩ : ∃ x, l[p]? = some x := ⟨l[p], by simp [pC]⟩
   cases f with
   | zero => omega
   | succ f =>
   have FD : fA l en (f + 1) p = if 0 < x.size then p :: fA l en f (p + x.size.toNat) else [] := by
    simp only [fA, hx, aJ, true_and]
   simp only [aJ, bS, dw, bp, aw, aU, ck, lK k3, dX, fB, fT]
   refine Ae hv hx fun r => ?_
   simp only [dr, aw, fT, cT, jV, List.drop, oa, fB, dD, az, if_true, ai, aX]
   refine ⟨fun hs => ?_, fun hs => ?_⟩
   · rw [if_pos hs] at FD
     simp only [fY, ye]
     refine Y _ _ _ L1 rfl pb eW ?_
     refine ⟨L1, pb, C5, ?_⟩
     have I3 := PQ _ _ o L1 { L1 with state := .busy } I2 pb
     have sG : ks.length < l.length := by
      have := tL l en l.length (n + 1)
      rw [<- gL, FD] at this
      simp at this; omega
     refine body ks p x _ o { L1 with state := .busy } _ I3 hx aJ hs hnp sG ⟨_, by rw [<- gL, FD]⟩ gd (fun cE I4 A0 wW => ?_) fun cE hJ3 wW => ?_
     · refine ⟨_, wW, ?_⟩
       have I5 := PQ _ _ o _ { L1 with state := .ready, eJ := none } I4 wW
       obtain ⟨j1, j2, j3⟩ := NL _ _ I5
       simp only [bu, cU, ai, bV, aV, aU, ck]
       rw [ff j3, dX, bG]
       refine HT hv hx fun r => ?_
       simp only [dr, ai, cT, jV, List.drop, mR, bG, cq]
       refine ⟨aZ (by omega) (by omega), _, ?_, ks ++ [p], f, p + x.size.toNat, rfl, rfl, rfl, rfl, ?_, by omega, by omega, by omega, ?_, I5, _, gd, by rw [<- eW]; rfl, rfl, rfl⟩
       · omega
       · congr 1; omega
       · rw [<- gL, FD]; simp
     · refine ⟨_, wW, ?_⟩
       simp only [bu, cU, ai, da, bh]
       refine aj.mk ⟨_, gd, by simp, ?_⟩
       exact ZY _ o _ (hJ _ o _ _ hJ3 wW) gd
   · rw [if_neg hs] at FD
     exact stop FD
 · simp only [aJ, cm, show (false == true) = false from rfl, a8, az, bq, if_false, ai, aV]
   refine stop ?_
   cases f with
   | zero => rfl
   | succ f =>
     simp only [fA]
     split
     · rw [if_neg (fun h => aJ h.1)]
     · rfl
end Go.Rip
namespace Go.Rip
open Go.Proofs Go.RowKit
def mC (aF U : St) (v : AV) (es : List Int) : Prop := (es = [] /\ v = .al) \/ ∃ b iB, v = .ms b 0 es.length 1 3 /\ U.box b = some (es.map (.int .i64) ++ iB) /\ aF.live b = none
section
variable {aF U : St} {R : cB -> St -> Prop} {K' : AV -> St -> Prop} {Kp : AV -> St -> Prop}
theorem Qa {b : Nat} {n a : Int} (hb : U.box b = some [.int .i64 n]) (h : R (.ret (.bool (decide (a <= n)))) U) : af K 133 [.int .i64 a, .box b 0] U R := by
 refine Kq ?_
 unfold Ko
 rw [ff hb, dX, bG]
 simp only [fw, ai]
 exact aj.mk h
theorem Ys {b : Nat} {L : List AV} {es : List Int} {iB : List AV} (h : U.box b = some L) (hL : L = es.map (.int .i64) ++ iB) {i n : Nat} (hi : i < es.length) (hn : i < n) (hk : K' (.int .i64 es[i]) U) :
 (aG (some (3, 1)) none (.ms b 0 n 1 3) (.int .i64 (i : Nat))).wp K U (fun v U => (aq (some (false, 1)) v U).wp K U K' Kp) Kp := by
 rw [wN]
 refine ⟨⟨by omega, by omega, rfl⟩, ?_⟩
 rw [ff h]
 have : L.drop (0 + (i : Int).toNat * 1) = .int .i64 es[i] :: ((es.map (AV.int .i64)).drop (i + 1) ++ iB) := by
  rw [hL, ej, Nat.mul_one, ck, List.drop_append_of_le_length (by simp; omega), fN (by simpa using hi)]
  simp
 rw [this, bG]
 exact hk
theorem Ba {b bn : Nat} {es : List Int} {iB : List AV} {n : Int} (hb : U.box b = some (es.map (.int .i64) ++ iB)) (hn : U.box bn = some [.int .i64 n]) (hl : es.length <= 100000)
 (h : (∃ k, k < es.length /\ (es.take k).all (fun a => decide (n < a)) = true /\ (∃ hk : k < es.length, es[k] <= n) /\ R (.ret (.int .i64 (k : Nat))) U) \/ (es.all (fun a => decide (n < a)) = true /\ R (.ret (.int .i64 (-1))) U)) :
 af K 210 [.ms b 0 es.length 1 3, .func (.func 133) [] [.box bn 0]] U R := by
 refine BB ?_
 unfold DT
 simp only [Jt, ai]
 refine ⟨fun m v0 v1 v7 v8 ae => ∃ i : Nat, m = es.length - i /\ i <= es.length /\ v0 = .ms b 0 es.length 1 3 /\ v1 = .func (.func 133) [] [.box bn 0] /\ v7 = .int .i64 es.length /\ v8 = .int .i64 i /\ ae = U /\ (es.take i).all (fun a => decide (n < a)) = true, ⟨_, 0, rfl, by omega, rfl, rfl, rfl, rfl, rfl, by simp⟩, ?_⟩
 rintro m v0 v1 v7 v8 ae ⟨i, rfl, hi, rfl, rfl, rfl, rfl, rfl, bw⟩
 simp only [bj, ai, aX]
 have Fz : ∀ (k : Nat) (hk : k < es.length), (es.take i).all (fun a => decide (n < a)) = true -> k < i -> n < es[k] := fun k hk ha FE => by
  rw [dJ] at ha
  have : es[k] ∈ es.take i := by
   rw [List.mem_iff_getElem]
   exact ⟨k, by simp; omega, by simp⟩
  simpa using ha _ this
 refine ⟨fun aJ => ?_, fun fZ => ?_⟩
 · have aJ : i < es.length := by omega
   refine Ys hb rfl aJ aJ ?_
   simp only [fY, show dB K.P 133 = true by kernel_rfl, if_true, iL, jA, jV]
   refine Qa hn ?_
   simp only [bu, aX]
   refine ⟨fun hle => ?_, fun w9 => ?_⟩
   · rcases h with ⟨k, hk, nE, ⟨_, fm⟩, hR⟩ | ⟨hA, _⟩
     · have : k = i := by
        rcases Nat.lt_trichotomy k i with h | h | h
        · have := Fz k hk bw h; omega
        · exact h
        · rw [dJ] at nE
          have hm : es[i] ∈ es.take k := by
           rw [List.mem_iff_getElem]
           exact ⟨i, by simp; omega, by simp⟩
          have := nE _ hm
          simp at this; omega
       subst this
       exact aj.mk hR
     · rw [dJ] at hA
       have := hA es[i] (qN aJ)
       simp at this; omega
   · rw [cq]
     refine ⟨aZ (by omega) (by omega), es.length - (i + 1), by omega, i + 1, rfl, by omega, rfl, rfl, rfl, by simp, rfl, ?_⟩
     rw [od, iZ aJ, List.all_append, bw]
     simp; omega
 · have hi : i = es.length := by omega
   subst hi
   rw [pv] at bw
   rcases h with ⟨k, hk, nE, ⟨_, fm⟩, hR⟩ | ⟨_, hR⟩
   · rw [dJ] at bw
     have := bw es[k] (qN hk)
     simp at this; omega
   · exact aj.mk hR
theorem AN : ∀ (es : List Int) (n : Int), (∃ k, ∃ hk : k < es.length, (es.take k).all (fun a => decide (n < a)) = true /\ es[k] <= n) \/ es.all (fun a => decide (n < a)) = true
 | [], n => .inr rfl
 | a :: es, n => by
   by_cases ha : n < a
   · rcases AN es n with ⟨k, hk, h1, h2⟩ | h
     · exact .inl ⟨k + 1, by simp; omega, by simp [ha, h1], by simpa using h2⟩
     · exact .inr (by simp [ha, h])
   · exact .inl ⟨0, by simp, by simp, by simp; omega⟩
theorem Ii {v : AV} {bn : Nat} {es : List Int} {n : Int} (hv : mC aF U v es) (hn : U.box bn = some [.int .i64 n]) (hl : es.length <= 100000) (hE : cJ aF U) (ID : ∀ b, aF.live b = none -> v = .ms b 0 es.length 1 3 -> bn ≠ b)
 (h : ∀ ae v', mC aF ae v' (es.filter (n < ·)) -> cJ aF ae -> (∀ b x, (∀ k, v ≠ .ms b 0 k 1 3) -> U.box b = some x -> ae.box b = some x) -> (∀ b k, v' = .ms b 0 k 1 3 -> v = .ms b 0 es.length 1 3) -> R (.ret v') ae) : af K 132 [v, .func (.func 133) [] [.box bn 0]] U R := by
 refine Km ?_
 unfold Kl
 rcases hv with ⟨rfl, rfl⟩ | ⟨b, iB, rfl, hb, uC⟩
 ·
  have Z1 : af K 210 [.al, .func (.func 133) [] [.box bn 0]] U (au (fun v10 U =>
   (ak .eql (BT.mk false false false none false) true v10 (AV.int .i64 (-1))).wp K U (fun v12 U => ao v12 (aj R .al U) False) (aa R)) (aa R)) := by
   refine BB ?_
   unfold DT
   simp only [len_nil, ai]
   refine ⟨fun m v0 v1 v7 v8 ae => v7 = .int .i64 0 /\ v8 = .int .i64 0 /\ ae = U, ⟨0, rfl, rfl, rfl⟩, ?_⟩
   rintro m v0 v1 v7 v8 ae ⟨rfl, rfl, rfl⟩
   simp only [bj, ai, show decide ((0 : Int) < 0) = false from rfl, aV]
   refine aj.mk ?_
   simp only [bu, aW, ai, bS, bh]
   exact aj.mk (h ae .al (.inl ⟨rfl, rfl⟩) hE (fun _ _ _ h => h) (fun _ _ e => by cases e))
  refine Z1.mono fun r ae hr => ?_
  cases r with
  | panic x => exact hr
  | ret x =>
    simp only [bu] at hr ⊢
    refine av.wp_mono (fun v U hv => ?_) _ hr
    cases v <;> simp only [ao] at hv ⊢
    exact ⟨hv.1, fun e => (hv.2 e).elim⟩
 · have IC : bn ≠ b := ID b uC rfl
   rcases AN es n with ⟨k, hk, nE, fm⟩ | bw
   · refine Ba hb hn hl (.inl ⟨k, hk, nE, ⟨hk, fm⟩, ?_⟩)
     have hkn : ¬ ((k : Nat) : Int) = -1 := by omega
     simp only [bu, aW, ai, hkn, cm, aV, cq]
     refine ⟨aZ (by omega) (by omega), ?_⟩
     have PJ : (es.take (k + 1)).filter (n < ·) = es.take k := by
      rw [od, iZ hk, List.filter_append]
      have h1 : (es.take k).filter (n < ·) = es.take k := by
       rw [List.filter_eq_self]
       intro a ha
       rw [dJ] at nE
       exact nE a ha
      rw [h1]
      have : ¬ n < es[k] := by omega
      simp [this]
     refine ⟨fun m v0 v1 v5 v6 ae => ∃ (i j : Nat) (arr : List AV), m = es.length - j /\ v0 = .ms b 0 es.length 1 3 /\ v1 = .func (.func 133) [] [.box bn 0] /\ v5 = .int .i64 (i : Nat) /\ v6 = .int .i64 (j : Nat) /\ j <= es.length /\ i < j /\ ae.box b = some arr /\ arr.take i = ((es.take j).filter (n < ·)).map (.int .i64) /\ i = ((es.take j).filter (n < ·)).length /\ arr.drop j = (es.drop j).map (.int .i64) ++ iB /\ arr.length = es.length + iB.length /\ (∀ c, c ≠ b -> ae.live c = U.live c),
      ⟨_, k, k + 1, es.map (.int .i64) ++ iB, rfl, rfl, rfl, rfl, by simp, by omega, by omega, hb, ?_, ?_, ?_, by simp, fun _ _ => rfl⟩, ?_⟩
     · rw [PJ, List.take_append_of_le_length (by simp; omega), <- List.map_take]
     · rw [PJ]; simp; omega
     · rw [List.drop_append_of_le_length (by simp; omega), <- List.map_drop]
     · rintro m v0 v1 v5 v6 ae ⟨i, j, arr, rfl, rfl, rfl, rfl, rfl, hj, fM, dQ, PF, Up, YL, ha4, yJ⟩
       simp only [Jt, ai, bj, aX]
       refine ⟨fun aJ => ?_, fun fZ => ?_⟩
       · have aJ : j < es.length := by omega
         intro jj xd
         have Y7 : ae.box bn = some [.int .i64 n] := by rw [gC (yJ bn IC)]; exact hn
         rw [wN]
         refine ⟨⟨by omega, by omega, rfl⟩, ?_⟩
         rw [ff dQ]
         obtain ⟨rr, hd⟩ : ∃ rr, arr.drop (0 + (j : Int).toNat * 1) = .int .i64 es[j] :: rr := by
          rw [ej, Nat.mul_one, ck, YL, fN aJ, dy]
          exact ⟨_, rfl⟩
         rw [hd, bG]
         simp only [fY, show dB K.P 133 = true by kernel_rfl, if_true, iL, jA, jV]
         refine Qa Y7 ?_
         have sJ : es.take (j + 1) = es.take j ++ [es[j]] := by rw [od, iZ aJ]; rfl
         have wZ : arr.drop (j + 1) = (es.drop (j + 1)).map (.int .i64) ++ iB := by
          rw [<- List.drop_drop, YL, fN aJ, dy]; rfl
         simp only [bu, cU, ai]
         by_cases hle : es[j] <= n
         · simp only [hle, bS, bV, aV]
           refine xd _ _ _ _ _ ?_
           simp only [cq]
           refine ⟨aZ (by omega) (by omega), es.length - (j + 1), by omega, i, j + 1, arr, rfl, rfl, rfl, rfl, by simp, by omega, by omega, dQ, ?_, ?_, wZ, ha4, yJ⟩
           · rw [sJ, List.filter_append, PF]
             have : ¬ n < es[j] := by omega
             simp [this]
           · rw [sJ, List.filter_append]
             have : ¬ n < es[j] := by omega
             simp only [List.filter_cons, this, cm, bq, if_false, List.filter_nil, jU]
             exact Up
         · simp only [hle, cm, da, bh]
           rw [wN]
           refine ⟨⟨by omega, by omega, rfl⟩, ?_⟩
           rw [cA dQ]
           refine ⟨⟨rfl, rfl, by simp; omega⟩, ?_⟩
           rw [cq]
           refine ⟨aZ (by omega) (by omega), ?_⟩
           refine xd _ _ _ _ _ ?_
           simp only [cq]
           have yO : aA arr (0 + (i : Int).toNat * 1) (ax (.int .i64 es[j])) = arr.take i ++ [.int .i64 es[j]] ++ arr.drop (i + 1) := by
            simp [aA]
           have CW : (arr.take i).length = i := by simp; omega
           refine ⟨aZ (by omega) (by omega), es.length - (j + 1), by omega, i + 1, j + 1, _, rfl, rfl, rfl, by simp, by simp, by omega, by omega, aS, ?_, ?_, ?_, ?_, fun c hc => by rw [ez, if_neg hc]; exact yJ c hc⟩
           · rw [yO, List.take_append_of_le_length (by simp; omega), pt (by simp; omega), PF, sJ, List.filter_append]
             have : n < es[j] := by omega
             simp [this]
           · rw [sJ, List.filter_append]
             have : n < es[j] := by omega
             simp only [List.filter_cons, this, bS, if_true, List.filter_nil, fX, jy, oL]
             omega
           · rw [yO, <- wZ]
             rw [List.drop_append, List.drop_eq_nil_of_le (by simp; omega), jA, List.drop_drop]
             congr 1
             simp
             omega
           · rw [yO]; simp; omega
       · have hje : j = es.length := by omega
         subst hje
         rw [pv] at PF Up
         simp only [eE, dq, wp_cond, ai]
         refine ⟨⟨by omega, by omega, by omega, by omega, trivial⟩, ?_⟩
         simp only [yo, dQ, wp_cond, jr]
         refine ⟨⟨trivial, by simp; omega⟩, ⟨by omega, by omega, by omega, by simp, trivial⟩, ?_⟩
         refine aj.mk (h _ _ (.inr ⟨b, (aA arr (0 + (i : Int).toNat * 1) (bL ((es.length : Int).toNat - (i : Int).toNat) [.int .i64 0])).drop i, ?_, ?_, uC⟩) ?_ ?_ ?_)
         · simp [Up]
         · rw [aS]
           congr 1
           have hz : (bL (es.length - i) [AV.int .i64 0]).length = es.length - i := by simp [je]
           simp only [ej, Nat.mul_one, ck]
           conv => lhs; rw [<- List.take_append_drop i (aA arr i _)]
           congr 1
           simp only [aA, pw]
           rw [List.take_append_of_le_length (by simp; omega), pt (by simp; omega)]
           exact PF
         · refine cJ.set (fun c x e => ?_) uC
           by_cases hc : c = b
           · subst hc; rw [uC] at e; cases e
           · rw [yJ c hc]; exact hE c x e
         · intro c x hc hx
           have YN : c ≠ b := fun e => hc es.length (by rw [e])
           rw [aN YN, gC (yJ c YN)]; exact hx
         · intro c k e
           simp only [AV.ms.injEq] at e
           rw [e.1]
   · refine Ba hb hn hl (.inr ⟨bw, ?_⟩)
     simp only [bu, aW, ai, bS, bh]
     have hf : es.filter (n < ·) = es := by
      rw [List.filter_eq_self]
      intro a ha
      rw [dJ] at bw
      exact bw a ha
     exact aj.mk (h U _ (by rw [hf]; exact .inr ⟨b, iB, rfl, hb, uC⟩) hE (fun _ _ _ h => h) (fun b' k e => by cases e; rfl))
end
end Go.Rip
namespace Go.Rip
open Go.Proofs Go.RowKit
section
variable {aF U : St} {R : cB -> St -> Prop} {K' : AV -> St -> Prop} {Kp : AV -> St -> Prop} {v : AV} {es : List Int}
theorem Ns (h : mC aF U v es) : bB (some false) v = .val (.int .i64 es.length) := by
 rcases h with ⟨rfl, rfl⟩ | ⟨b, iB, rfl, _, _⟩ <;> rfl
theorem Nr {bx : Nat} {a : Int} (hv : mC aF U v es) (hy : U.box bx = some [.int .i64 a]) (E : cJ aF U) (hl : es.length <= 100000) (h : ∀ ae v', mC aF ae v' (es ++ [a]) -> cJ aF ae -> K' v' ae) :
 (eZ (some (3, 1)) true v (.ms bx 0 1 1 3) U).wp K U K' Kp := by
 have G2 : px U (.ms bx 0 1 1 3) = some (1, [.int .i64 a]) := by simp [px, hy]
 rcases hv with ⟨rfl, rfl⟩ | ⟨b, iB, rfl, hb, uC⟩
 · simp only [eZ, G2, wp_cond]
   refine ⟨rfl, by omega, fun b hf => ?_⟩
   exact h _ _ (.inr ⟨b, [], rfl, by rw [show U.pn none = U from rfl]; exact aL, E.fresh hf.1⟩) (E.new hf)
 · refine MW hb G2 ⟨rfl, by simp, by omega⟩ fun b' hf => ?_
   refine h _ _ (.inr ⟨b', [], by simp, ?_, ?_⟩) ((E.del uC).new hf)
   · rw [aL]; simp
   · have hd := hf.1
     by_cases e : b' = b
     · rw [e]; exact uC
     · rw [oH, if_neg e] at hd; exact E.fresh hd
end
theorem GO {v : AV} {l : List Nd} (hv : eB v l.length (cw l)) (hc : closed v = true) (hl : l.length <= 100000) (h0 : l ≠ []) (hs : ∀ x ∈ l, 0 <= x.size /\ x.size <= 100000) (ri : kD l <= l.length) : Pure K 69 [.agg [v]] (.bool (qo l)) := by
 refine Pure.of (by simp [bU, closed, hc]) rfl (fun U => rfl) fun R hR => ?_
 refine OF ?_
 unfold Qy
 rw [eA rfl]
 intro b1 dC
 have m1 : ((bD ⟨.e, 0⟩).new b1 (.box (ax (.agg [v])))).box b1 = some [v] := aL
 generalize (bD _).new b1 _ = aF at *
 clear dC
 simp only [aU, ai, ck]
 rw [ff m1, dX, bG, hv.len, ai]
 refine ⟨fun m v1 v2 v3 v8 v9 v10 ae => ∃ (i : Nat) (es : List Int), m = l.length - i /\ v1 = .box b1 0 /\ v2 = .bool false /\ v8 = v /\ v9 = .int .i64 l.length /\ v10 = .int .i64 (i : Nat) /\ i <= l.length /\ mC aF ae v3 es /\ es.length <= i /\ hZ (l.drop i) i es = hZ l 0 [] /\ cJ aF ae,
  ⟨_, 0, [], rfl, rfl, rfl, rfl, rfl, rfl, by omega, .inl ⟨rfl, rfl⟩, by simp, rfl, cJ.refl _⟩, ?_⟩
 rintro m v1 v2 v3 v8 v9 v10 bJ ⟨i, es, rfl, rfl, rfl, rfl, rfl, rfl, hi, vg, Uy, hg, E1⟩
 simp only [bj, ai, aX]
 refine ⟨fun aJ => ?_, fun fZ => ?_⟩
 · have aJ : i < l.length := by omega
   obtain ⟨x, hx⟩ : ∃ x, l[i]? = some x := ⟨l[i], by simp [aJ]⟩
   have ve : l.drop i = x :: l.drop (i + 1) := by
    rw [fN aJ]
    have := (dm.1 hx).2
    rw [this]
   rw [ve, hZ] at hg
   refine HT hv hx fun r => ?_
   rw [Au]
   refine ⟨by simp [cT], ?_⟩
   have CM : (cT x ++ r).take 6 = cT x := by simp [cT]
   rw [CM, cx]
   intro b4 jk
   rw [cx]
   intro b5 pc
   have m4 : (bJ.new b4 (.box [.int .i64 0])).box b4 = some [.int .i64 0] := aL
   have Br := pc.bZ m4
   have f4 := E1.fresh jk.1
   have E2 := E1.new jk (x := .box [.int .i64 0])
   have NO : mC aF (bJ.new b4 (.box [.int .i64 0])) v3 es /\ (∀ b, v3 = .ms b 0 es.length 1 3 -> b4 ≠ b) := by
    rcases vg with h | ⟨b, iB, rfl, h2, h3⟩
    · exact ⟨.inl h, fun b e => by rw [h.2] at e; cases e⟩
    · have := jk.bZ h2
      exact ⟨.inr ⟨b, iB, rfl, by rw [lX this]; exact h2, h3⟩, fun b' e => by cases e; exact this.symm⟩
   obtain ⟨NO, NR⟩ := NO
   clear vg
   generalize bJ.new b4 (.box [.int .i64 0]) = bX at *
   have m5 : (bX.new b5 (.box [AV.int .u8 0, AV.str [], AV.int .i64 0, AV.int .i64 0, AV.int .i64 0, AV.int .i64 0])).box b5 = some [AV.int .u8 0, AV.str [], AV.int .i64 0, AV.int .i64 0, AV.int .i64 0, AV.int .i64 0] := aL
   have f5 := E2.fresh pc.1
   have E3 := E2.new pc (x := .box [AV.int .u8 0, AV.str [], AV.int .i64 0, AV.int .i64 0, AV.int .i64 0, AV.int .i64 0])
   have m4' := (bm pc (x := .box [AV.int .u8 0, AV.str [], AV.int .i64 0, AV.int .i64 0, AV.int .i64 0, AV.int .i64 0])).bo m4
   have NP : mC aF (bX.new b5 (.box [AV.int .u8 0, AV.str [], AV.int .i64 0, AV.int .i64 0, AV.int .i64 0, AV.int .i64 0])) v3 es /\ (∀ b, v3 = .ms b 0 es.length 1 3 -> b5 ≠ b) := by
    rcases NO with h | ⟨b, iB, rfl, h2, h3⟩
    · exact ⟨.inl h, fun b e => by rw [h.2] at e; cases e⟩
    · have := pc.bZ h2
      exact ⟨.inr ⟨b, iB, rfl, by rw [lX this]; exact h2, h3⟩, fun b' e => by cases e; exact this.symm⟩
   obtain ⟨NP, UX⟩ := NP
   generalize bX.new b5 (.box [AV.int .u8 0, AV.str [], AV.int .i64 0, AV.int .i64 0, AV.int .i64 0, AV.int .i64 0]) = cE at *
   rw [cA m4']
   refine ⟨⟨rfl, rfl, by simp⟩, ?_⟩
   rw [cA (show (cE.set b4 _).box b5 = some _ by rw [aN Br.symm]; exact m5)]
   refine ⟨⟨rfl, rfl, by simp [cT]⟩, ?_⟩
   have E4 := (E3.set f4 (x := .box (aA [.int .i64 0] 0 (ax (.int .i64 (i : Nat)))))).set f5 (x := .box (aA [AV.int .u8 0, AV.str [], AV.int .i64 0, AV.int .i64 0, AV.int .i64 0, AV.int .i64 0] 0 (ax (.agg (cT x)))))
   have g4 : ((cE.set b4 (.box (aA [.int .i64 0] 0 (ax (.int .i64 (i : Nat)))))).set b5 (.box (aA [AV.int .u8 0, AV.str [], AV.int .i64 0, AV.int .i64 0, AV.int .i64 0, AV.int .i64 0] 0 (ax (.agg (cT x)))))).box b4 = some [.int .i64 (i : Nat)] := by
    rw [aN Br, aS]; rfl
   have g5 : ((cE.set b4 (.box (aA [.int .i64 0] 0 (ax (.int .i64 (i : Nat)))))).set b5 (.box (aA [AV.int .u8 0, AV.str [], AV.int .i64 0, AV.int .i64 0, AV.int .i64 0, AV.int .i64 0] 0 (ax (.agg (cT x)))))).box b5 = some (cT x) := by
    rw [aS]; rfl
   have Uz : mC aF ((cE.set b4 (.box (aA [.int .i64 0] 0 (ax (.int .i64 (i : Nat)))))).set b5 (.box (aA [AV.int .u8 0, AV.str [], AV.int .i64 0, AV.int .i64 0, AV.int .i64 0, AV.int .i64 0] 0 (ax (.agg (cT x)))))) v3 es := by
    rcases NP with h | ⟨b, iB, rfl, h2, h3⟩
    · exact .inl h
    · exact .inr ⟨b, iB, rfl, by rw [aN (UX b rfl).symm, aN (NR b rfl).symm]; exact h2, h3⟩
   generalize (cE.set b4 (.box (aA [.int .i64 0] 0 (ax (.int .i64 (i : Nat)))))).set b5 (.box (aA [AV.int .u8 0, AV.str [], AV.int .i64 0, AV.int .i64 0, AV.int .i64 0, AV.int .i64 0] 0 (ax (.agg (cT x))))) = cW at *
   refine Ii Uz g4 (by omega) E4 (fun b _ e => NR b e) fun dV v' UA E5 hk5 _ => ?_
   have pN : ∀ b y, b4 = b \/ b5 = b -> cW.box b = some y -> dV.box b = some y := fun b y hb hy => by
    refine hk5 b y (fun k e => ?_) hy
    rcases Uz with h | ⟨b', iB, rfl, h2, h3⟩
    · rw [h.2] at e; cases e
    · simp only [AV.ms.injEq] at e
      rcases hb with rfl | rfl
      · exact NR b' rfl e.1.symm
      · exact UX b' rfl e.1.symm
   have YA := pN b4 _ (.inl rfl) g4
   have YB := pN b5 _ (.inr rfl) g5
   simp only [bu, Ns UA, ai, dD, aX]
   have CQ : (es.filter ((i : Int) < ·)).length <= es.length := List.length_filter_le _ _
   refine ⟨fun w9 => ?_, fun hle => ?_⟩
   · rw [if_pos (by omega)] at hg
     refine aj.mk ?_
     have : qo l = true := by simp [qo, <- hg]
     rw [this] at hR
     exact hR _
   · rw [if_neg (by omega)] at hg
     have FM := hs x (fi hx)
     rw [ff YA, dX, bG]
     simp only [aU, ai, ck]
     rw [ff YB]
     simp only [cT, List.drop, bG, cq]
     refine ⟨aZ (by omega) (by omega), ?_⟩
     rw [BE]
     refine ⟨by omega, ?_⟩
     rw [eM (o := 0) (s := 1) rfl]
     refine ⟨⟨rfl, rfl, by simp [bL]⟩, ?_⟩
     rw [Gl]
     refine ⟨rfl, fun bx rh => ?_⟩
     have Z9 : mC aF (dV.new bx (.box (aA (bL 1 [AV.int .i64 0]) 0 (ax (.int .i64 ((i : Int) + x.size)))))) v' (es.filter ((i : Int) < ·)) := by
      rcases UA with h | ⟨b', iB, rfl, h2, h3⟩
      · exact .inl h
      · exact .inr ⟨b', iB, rfl, by rw [lX (rh.bZ h2)]; exact h2, h3⟩
     refine Nr Z9 (by rw [aL]; rfl) (E5.new rh) (by omega) fun nM v7 aaa E7 => ?_
     refine ⟨aZ (by omega) (by omega), l.length - (i + 1), by omega, i + 1, _, rfl, rfl, rfl, rfl, rfl, by simp, by omega, aaa, by simp; omega, hg, E7⟩
 · have hi : i = l.length := by omega
   subst hi
   rw [List.drop_length] at hg
   have UG : hZ l 0 [] = false := hg.symm
   have w9 : qo l = decide (24 < (fA l (kD l) l.length 1).length) := by simp [qo, UG]
   rw [w9] at hR
   rw [cx]
   intro b6 ou
   have m6 : (bJ.new b6 (.box [.int .i64 0])).box b6 = some [.int .i64 0] := aL
   have Jy := (E1.new ou (x := .box [.int .i64 0])).bo m1
   have n16 := ou.bZ (E1.bo m1)
   generalize bJ.new b6 (.box [.int .i64 0]) = bX at *
   rw [cA m6]
   refine ⟨⟨rfl, rfl, by simp⟩, ?_⟩
   have Bp : (bX.set b6 (.box (aA [.int .i64 0] 0 (ax (.int .i64 0))))).box b6 = some [.int .i64 (([] : List Nat).length : Nat)] := by rw [aS]; rfl
   have aaE : (bX.set b6 (.box (aA [.int .i64 0] 0 (ax (.int .i64 0))))).box b1 = some [v8] := by rw [aN n16]; exact Jy
   generalize bX.set b6 (.box (aA [.int .i64 0] 0 (ax (.int .i64 0)))) = cE at *
   rw [rL aaE]
   refine ⟨by simp, ?_⟩
   refine nP [v8] (by simp [xD, hv.cS, aA]) ?_
   cases l with
   | nil => exact absurd rfl h0
   | cons x0 l =>
   have hx0 := hs x0 (by simp)
   refine xM (n := 0) (x := x0) hv rfl (aZ (by simp; omega) (by simp; omega)) fun bn be bt cW d1 d2 d3 f1 f2 f3 k1 k2 k3 e4 => ?_
   have m6n := e4.bo Bp
   have en : (((0 : Nat) : Int) + x0.size) = kD (x0 :: l) := by simp [kD]
   rw [en] at k2
   have nn : bn ≠ b6 := fun e => by rw [e] at f1; exact cK Bp f1
   have ne : be ≠ b6 := fun e => by rw [e] at f2; exact cK Bp f2
   have nt : bt ≠ b6 := fun e => by rw [e] at f3; exact cK Bp f3
   refine ue (fun ks U => U.box b6 = some [.int .i64 (ks.length : Nat)] /\ U.box bn = some [.int .i64 ((0 : Nat) : Int)] /\ U.box be = some [.int .i64 (kD (x0 :: l))] /\ U.box bt = some [v8] /\ True) (fun _ => False) hv (by simp) (by omega) ri
    (fun ks U h => h.2.imp id fun h => h.imp id fun h => h.1) (fun ks U o L L' h hL => ?_) (fun ks U o L h ho => ?_) (fun _ _ _ _ h => h.elim) (fun ks eO x dV o L1 q hI hx aJ oD Y8 sG _ hL hn hr => ?_) (fun ks dV o L gL hI hL => ?_) (fun _ _ _ h => h.elim) ⟨m6n, k1, k2, k3, trivial⟩
   · exact ⟨by rw [aN (bO h.1 hL)]; exact h.1, by rw [aN (bO h.2.1 hL)]; exact h.2.1, by rw [aN (bO h.2.2.1 hL)]; exact h.2.2.1, by rw [aN (bO h.2.2.2.1 hL)]; exact h.2.2.2.1, h.2.2.2.2⟩
   · have e := bm ho (x := .loop L)
     exact ⟨e.bo h.1, e.bo h.2.1, e.bo h.2.2.1, e.bo h.2.2.2.1, h.2.2.2.2⟩
   · obtain ⟨i1, i2, i3, i4, i5⟩ := hI
     rw [ff i1, dX, bG, cq]
     refine ⟨aZ (by omega) (by omega), ?_⟩
     rw [cA i1]
     refine ⟨⟨rfl, rfl, by simp⟩, ?_⟩
     refine hn _ ⟨by rw [aS]; simp [aA], by rw [aN nn]; exact i2, by rw [aN ne]; exact i3, by rw [aN nt]; exact i4, trivial⟩ (hs x (fi hx)).2 (by rw [eR]; exact hL; rw [ez, if_neg (bO i1 hL).symm])
   · obtain ⟨i1, i2, i3, i4, i5⟩ := hI
     have i1' : (dV.del o).box b6 = some [.int .i64 (ks.length : Nat)] := by rw [fI (bO i1 hL)]; exact i1
     show (aq (some (false, 1)) (.box b6 0) (dV.del o)).wp K (dV.del o) _ _
     rw [ff i1', dX, bG]
     simp only [dD, ai]
     subst gL
     refine aj.mk ?_
     have := hR (dV.del o)
     have e : decide ((24 : Int) < ((fA (x0 :: l) (kD (x0 :: l)) (x0 :: l).length (0 + 1)).length : Nat)) = decide (24 < (fA (x0 :: l) (kD (x0 :: l)) (x0 :: l).length 1).length) := by
      rw [lL]; simp only [cP, ck]; omega
     rw [e]; exact this
end Go.Rip
namespace Go.Rip
open Go.Proofs Go.RowKit
theorem J3 {U : St} {a b : Nat} {l : List AV} (h : b ≠ a) : (U.bT a l).live b = U.live b := by
 simp [St.bT, St.set, h]
theorem hX.bT {r : Nat} {U ae : St} {b : Nat} {l : List AV} (h : hX r U ae) (n : U.live b = none) : hX r U (ae.bT b l) := fun c y m e => by
 by_cases hc : c = b
 · subst hc; rw [n] at e; cases e
 · rw [J3 hc]; exact h c y m e
theorem dY.scalar {a : AV} {ns : List Nd} (hk : dY false [a] ns) : a.scalar = true := by
 generalize hb : false = b at hk
 generalize hl : [a] = la at hk
 cases hk with
 | mk _ _ => cases hl; rfl
 | nil => cases hl
 | cons _ _ => cases hb
section
variable {X : Rx} {r i : Nat} {U : St} {R : cB -> St -> Prop}
end
def gx (l : List Nd) : AV := if l = [] then .al else .vec l.length .iW (cw l)
end Go.Rip
