/- Lemmas for the proof: no conditions. -/
import Derived.Test.YtnfpmiiopiinbaaGreatDoorRipZz
import Derived.Test.YtnfpmiiopiinbaaGreatDoorRipO
import Derived.Test.YtnfpmiiopiinbaaGreatDoorRipP
import Derived.Test.YtnfpmiiopiinbaaGreatDoorRipI
import Derived.Test.YtnfpmiiopiinbaaGreatDoorRipK
set_option linter.unusedVariables false
set_option linter.unusedSimpArgs false
set_option linter.loopingSimpArgs false
namespace Go.Rip
open Go.Proofs Go.RowKit
def bO (x : Nd) : List AV := [.int .u8 x.kind, .str x.text, .int .i64 x.n, .int .i64 x.m, .int .i64 x.at_, .int .i64 x.size]
def bC (l : List Nd) : List AV := l.flatMap bO
theorem px (l l' : List Nd) : bC (l ++ l') = bC l ++ bC l' := by simp [bC]
theorem fo (L : List Nd) : (bC L).length = 6 * L.length := by
 induction L with
 | nil => rfl
 | cons t L ih =>
   have : (bC (t :: L)).length = 6 + (bC L).length := by simp [bC, bO]; omega
   rw [this, ih, jL]; omega
theorem B3 (L : List Nd) (i : Nat) : (bC L).drop (i * 6) = bC (L.drop i) := by
 induction L generalizing i with
 | nil => simp [bC]
 | cons t L ih =>
   cases i with
   | zero => simp
   | succ i =>
     rw [Nat.add_mul, show i * 6 + 1 * 6 = 6 + i * 6 by omega, <- List.drop_drop, List.drop_succ_cons, <- ih]
     rfl
theorem tz {L : List Nd} {i : Nat} {t : Nd} (h : L[i]? = some t) : ∃ r, (bC L).drop (i * 6) = bO t ++ r := by
 rw [B3, gy (dF.1 h).1]
 refine ⟨bC (L.drop (i + 1)), ?_⟩
 have := (dF.1 h).2
 simp [bC, this]
section
variable {C : cw} {U : St} {K' : AV -> St -> Prop} {Kp : AV -> St -> Prop} {e sz n b m : Nat} {L l2 z : List AV} {y : AV}
theorem NI {ps : List (Nat × AV)} : (aO (some (e, sz)) (some z) n true ps).wp C U K' Kp = (n * sz <= 16777216 /\ (eW (fun i => some (i * sz, sz)) ps (bK n z) fun cs => .cond (cs.length = n * sz) (.mq n sz e none cs)).wp C U K' Kp) := by
 simp only [aO, if_true]; rfl
theorem SO {pl : Nat -> Option (Nat × Nat)} {k : Nat} : (eW pl [] L fun cs => .cond (cs.length = k) (.mq n sz e none cs)).wp C U K' Kp = (L.length = k /\ ∀ b, U.cY b -> K' (.ms b 0 n sz e) (U.new b (.box L))) := rfl
theorem NF {mu : Bool} (hb : U.box b = some L) (hy : pc U y = some (m, l2)) (h : l2.length = m * sz /\ n * sz <= L.length /\ n + m <= 4294967296) (hk : ∀ b', (U.del b).cY b' -> K' (.ms b' 0 (n + m) sz e) ((U.del b).new b' (.box (L.take (n * sz) ++ l2)))) : (dM (some (e, sz)) mu (.ms b 0 n sz e) y U).wp C U K' Kp := by
 simp only [dM, hy, hb, wp_cond]
 exact ⟨h.1, ⟨trivial, trivial, trivial, h.2.1, h.2.2⟩, hk⟩
end
theorem eA.split {ks : List AV} {l : List Nd} {a : AV} {i : Nat} (h : eA true (ks.drop i) l) (ha : ks[i]? = some a) : ∃ l1 l2, l = l1 ++ l2 /\ eA false [a] l1 /\ eA true (ks.drop (i + 1)) l2 := by
 obtain ⟨aJ, rfl⟩ := dF.1 ha
 rw [gy aJ] at h
 generalize hb : true = b at h
 generalize hl : ks[i] :: ks.drop (i + 1) = la at h
 cases h with
 | mk _ _ => cases hb
 | nil => cases hl
 | cons h1 h2 => cases hl; exact ⟨_, _, rfl, h1, h2⟩
theorem eA.le : ∀ {ks : List AV} {l : List Nd}, eA true ks l -> ks.length <= l.length
 | [], _, _ => by simp
 | a :: ks, l, h => by
   obtain ⟨l1, l2, rfl, h1, h2⟩ := eA.split (ks := a :: ks) (a := a) (i := 0) h rfl
   obtain ⟨x, r, e, _⟩ := h1.size
   have := eA.le (ks := ks) h2
   rw [e]; simp; omega
end Go.Rip
namespace Go.Rip
open Go.Proofs Go.RowKit
theorem eh.YY {v : AV} {l : List Nd} (h : eh v l.length (bC l)) {i : Nat} {x : Nd} (hx : l[i]? = some x) {e : Nat} : ∃ r, aF (some (e, 6)) none v (.int .i64 (i : Int)) = .cond (0 <= (i : Int) /\ (i : Int) < l.length) (.val (.ck (bO x ++ r))) := by
 obtain ⟨c, rfl, mD⟩ := h.at (sz := 6) (e := e) (dF.1 hx).1
 obtain ⟨r, hr⟩ := tz hx
 exact ⟨r, by rw [mD, hr]⟩
section
variable {C : cw} {U : St} {K' : AV -> St -> Prop} {Kp : AV -> St -> Prop} {k : AV -> Prop} {v : AV} {l : List Nd} {i e : Nat} {x : Nd}
theorem EY (h : eh v l.length (bC l)) (hx : l[i]? = some x) (hk : ∀ r, K' (.ck (bO x ++ r)) U) : (aF (some (e, 6)) none v (.int .i64 (i : Int))).wp C U K' Kp := by
 obtain ⟨r, hr⟩ := h.YY hx (e := e)
 rw [hr]
 have := (dF.1 hx).1
 exact ⟨by omega, hk r⟩
theorem yI (h : eh v l.length (bC l)) (hx : l[i]? = some x) (hk : ∀ r, k (.ck (bO x ++ r))) : aw C (aF (some (e, 6)) none v (.int .i64 (i : Int))) k := by
 obtain ⟨r, hr⟩ := h.YY hx (e := e)
 rw [hr]
 have := (dF.1 hx).1
 exact ⟨by omega, hk r⟩
end
theorem eh.cQ {v : AV} {n : Nat} {cs : List AV} (h : eh v n cs) : v.cQ = true /\ ay v = [v] := by
 rcases h with ⟨rfl, rfl, rfl⟩ | ⟨c, rfl⟩ <;> exact ⟨rfl, rfl⟩
theorem D0 {U : St} {R : cD -> St -> Prop} {v : AV} {l : List Nd} {n : Nat} {x : Nd} (hv : eh v l.length (bC l)) (hx : l[n]? = some x) (h64 : u9 ((n : Int) + x.size))
 (h : ∀ bn be bt ae, bn ≠ be -> bn ≠ bt -> be ≠ bt -> U.live bn = none -> U.live be = none -> U.live bt = none -> ae.box bn = some [.int .i64 (n : Nat)] -> ae.box be = some [.int .i64 ((n : Int) + x.size)] -> ae.box bt = some [v] -> cL U ae -> R (.ret (.func (.func 155) [] [.box bn 0, .box be 0, .box bt 0])) ae) : af K 81 [.agg [v], .int .i64 (n : Nat)] U R := by
 refine Pv ?_
 unfold Rd
 rw [ff rfl]
 intro bt Jm
 rw [ff rfl]
 intro bn zq
 have mt : (U.new bt (.box (ay (.agg [v])))).box bt = some [v] := aN
 have e1 := bE Jm (x := .box (ay (.agg [v])))
 have fr1 : U.live bt = none := Jm.1
 generalize U.new bt (.box (ay (.agg [v]))) = bJ at *
 have e2 := bE zq (x := .box (ay (.int .i64 (n : Nat))))
 have mn : (bJ.new bn (.box (ay (.int .i64 (n : Nat))))).box bn = some [.int .i64 (n : Nat)] := aN
 have ntn := zq.cx mt
 have fr2 : U.live bn = none := e1.fresh zq.1
 generalize bJ.new bn (.box (ay (.int .i64 (n : Nat)))) = bP at *
 have VV := e2.bj mt
 simp only [lX mn, ez, fM, aV, av, cr, lX VV]
 refine yI hv hx fun r => ?_
 simp only [dA, av, bO, kf, List.drop, oF, fM, sa]
 refine ⟨h64, ?_⟩
 rw [cN]
 intro be tg
 have e3 := bE tg (x := .box [.int .i64 0])
 have me : (bP.new be (.box [.int .i64 0])).box be = some [.int .i64 0] := aN
 have V5 := tg.cx mn
 have V9 := tg.cx VV
 have Y1 : U.live be = none := (e1.trans e2).fresh tg.1
 refine ⟨?_, ?_⟩
 · intro b hb
   simp only [cB, ik, iy, dS, eZ, List.not_mem_nil, or_false] at hb
   have : b = bn \/ b = bt := by
    rcases hb with h | h | h <;> simp_all
   rw [nD]
   rcases this with rfl | rfl
   · rw [if_neg V5]
   · rw [if_neg V9]
 · rw [cI me]
   refine ⟨⟨rfl, rfl, by simp⟩, ak.mk (h bn be bt _ V5 ntn.symm V9.symm fr2 Y1 fr1 ?_ ?_ ?_ ((e1.trans (e2.trans e3)).set Y1))⟩
   · rw [aP V5]; exact e3.bj mn
   · rw [aT]; rfl
   · rw [aP V9]; exact e3.bj VV
theorem yy (l : List Nd) (en : Int) : ∀ (f p : Nat), (gh l en f p).length <= f
 | 0, _ => by simp [gh]
 | f + 1, p => by
   simp only [gh]
   split
   · split
     · have := yy l en f (p + (Nd.size ‹_›).toNat)
       simp; omega
     · simp
   · simp
theorem z6 {v : AV} {l : List Nd} {n : Nat} {en : Int} {bn be bt : Nat} {U : St} {B : AV -> Qr -> St -> Prop} {Kn : St -> Prop} {Ke : Nat -> St -> Prop} {Kr : St -> Prop} {Kp : AV -> St -> Prop} (I : List Nat -> St -> Prop) (J : St -> Prop)
 (hv : eh v l.length (bC l)) (hn : n < l.length) (hlen : l.length <= 100000) (Zj : en <= l.length)
 (Ow : ∀ ks U, I ks U -> U.box bn = some [.int .i64 (n : Nat)] /\ U.box be = some [.int .i64 en] /\ U.box bt = some [v])
 (Qo : ∀ ks U o L L', I ks U -> U.loop o = some L -> I ks (U.set o (.loop L')))
 (nz : ∀ ks U o L, I ks U -> U.cY o -> I ks (U.new o (.loop L)))
 (hJ : ∀ U o L L', J U -> U.loop o = some L -> J (U.set o (.loop L')))
 (body : ∀ (ks : List Nat) (fX : Nat) (x : Nd) (bJ : St) (o : Nat) (L1 : fw) (q : Qr), I ks bJ -> l[fX]? = some x -> (fX : Int) < en -> 0 < x.size -> n < fX -> ks.length < l.length -> (∃ r, gh l en l.length (n + 1) = ks ++ fX :: r) -> bJ.loop o = some L1 ->
   (∀ bP, I (ks ++ [fX]) bP -> x.size <= 100000 -> bP.loop o = some L1 -> q.n bP) -> (∀ bP, J bP -> bP.loop o = some L1 -> q.r bP) -> B (.int .i64 (fX : Nat)) q bJ)
 (fin : ∀ ks bJ o L, ks = gh l en l.length (n + 1) -> I ks bJ -> bJ.loop o = some L -> Kn (bJ.del o))
 (aai : ∀ bJ o L, J bJ -> bJ.loop o = some L -> Kr (bJ.del o))
 (h0 : I [] U) : tE K 1 (.func (.func 155) [] [.box bn 0, .box be 0, .box bt 0]) U (fun v q U => q.Gw (fun U => B v q U) U) Kn Ke Kr Kp := by
 refine ⟨by kernel_rfl, fun o L ho Jh UP Y => ?_⟩
 have I1 := nz _ _ o L h0 ho
 have L8 := x5 (U := U) (b := o) (L := L)
 generalize U.new o (.loop L) = bJ at *
 refine LL ?_
 unfold LK
 rw [fz (Ow _ _ I1).1, ez, bM, cg]
 refine ⟨aS (by omega) (by omega), ?_⟩
 refine ⟨fun m v0 v2 v3 v5 ae => ∃ ks f p, m = l.length - p /\ v0 = .pN o /\ v2 = .box be 0 /\ v3 = .box bt 0 /\ v5 = .int .i64 (p : Nat) /\ n < p /\ p <= 300000 /\ l.length - p <= f /\ ks ++ gh l en f p = gh l en l.length (n + 1) /\ I ks ae /\ ∃ L1, ae.loop o = some L1 /\ L1.st .ready none = L /\ L1.state = .ready /\ L1.eT = none,
  ⟨_, [], l.length, n + 1, rfl, rfl, rfl, rfl, by simp, by omega, by omega, by omega, rfl, I1, L, L8, by cases L; simp_all [fw.st], Jh, UP⟩, ?_⟩
 clear I1 L8
 rintro m v0 v2 v3 v5 bP ⟨ks, f, p, rfl, rfl, rfl, rfl, rfl, hnp, hp3, hf, iE, I2, L1, pF, fp, DF, BF⟩
 obtain ⟨k1, k2, k3⟩ := Ow _ _ I2
 rw [fz k2, ez, bM]
 simp only [bg, ah, aI, aC]
 have stop : gh l en f p = [] -> ak (Kz o Kn Ke Kr Kp) (.aR []) bP := fun h => by
  rw [h, iy] at iE
  refine ak.mk ⟨L1, pF, by rw [DF]; simp, ?_⟩
  rw [BF]
  exact fin ks bP o L1 iE I2 pF
 by_cases aJ : (p : Int) < en
 · have oS : p < l.length := by omega
   obtain ⟨x, hx⟩ : ∃ x, l[p]? = some x := ⟨l[p], by simp [oS]⟩
   cases f with
   | zero => omega
   | succ f =>
   have Gj : gh l en (f + 1) p = if 0 < x.size then p :: gh l en f (p + x.size.toNat) else [] := by
    simp only [gh, hx, aJ, true_and]
   simp only [aJ, bT, dG, bl, av, aV, cr, lX k3, ez, fM, ga]
   refine yI hv hx fun r => ?_
   simp only [dA, av, ga, bO, kf, List.drop, oF, fM, dK, aA, if_true, ah, aY]
   refine ⟨fun hs => ?_, fun hs => ?_⟩
   · rw [if_pos hs] at Gj
     simp only [gp, yW]
     refine Y _ _ _ L1 rfl pF fp ?_
     refine ⟨L1, pF, DF, ?_⟩
     have I3 := Qo _ _ o L1 { L1 with state := .busy } I2 pF
     have vi : ks.length < l.length := by
      have := yy l en l.length (n + 1)
      rw [<- iE, Gj] at this
      simp at this; omega
     refine body ks p x _ o { L1 with state := .busy } _ I3 hx aJ hs hnp vi ⟨_, by rw [<- iE, Gj]⟩ gi (fun cJ I4 BG xK => ?_) fun cJ hJ3 xK => ?_
     · refine ⟨_, xK, ?_⟩
       have I5 := Qo _ _ o _ { L1 with state := .ready, eT := none } I4 xK
       obtain ⟨j1, j2, j3⟩ := Ow _ _ I5
       simp only [bA, c8, ah, ca, aW, aV, cr]
       rw [fz j3, ez, bM]
       refine EY hv hx fun r => ?_
       simp only [dA, ah, bO, kf, List.drop, mg, bM, cg]
       refine ⟨aS (by omega) (by omega), _, ?_, ks ++ [p], f, p + x.size.toNat, rfl, rfl, rfl, rfl, ?_, by omega, by omega, by omega, ?_, I5, _, gi, by rw [<- fp]; rfl, rfl, rfl⟩
       · omega
       · congr 1; omega
       · rw [<- iE, Gj]; simp
     · refine ⟨_, xK, ?_⟩
       simp only [bA, c8, ah, dt, bf]
       refine ak.mk ⟨_, gi, by simp, ?_⟩
       exact aai _ o _ (hJ _ o _ _ hJ3 xK) gi
   · rw [if_neg hs] at Gj
     exact stop Gj
 · simp only [aJ, ct, show (false == true) = false from rfl, a7, aA, bo, if_false, ah, aW]
   refine stop ?_
   cases f with
   | zero => rfl
   | succ f =>
     simp only [gh]
     split
     · rw [if_neg (fun h => aJ h.1)]
     · rfl
end Go.Rip
namespace Go.Rip
open Go.Proofs Go.RowKit
def mQ (aG U : St) (v : AV) (es : List Int) : Prop := (es = [] /\ v = .al) \/ ∃ b iY, v = .ms b 0 es.length 1 3 /\ U.box b = some (es.map (.int .i64) ++ iY) /\ aG.live b = none
section
variable {aG U : St} {R : cD -> St -> Prop} {K' : AV -> St -> Prop} {Kp : AV -> St -> Prop}
theorem QG {b : Nat} {n a : Int} (hb : U.box b = some [.int .i64 n]) (h : R (.ret (.bool (decide (a <= n)))) U) : af K 133 [.int .i64 a, .box b 0] U R := by
 refine K6 ?_
 unfold K5
 rw [fz hb, ez, bM]
 simp only [fm, ah]
 exact ak.mk h
theorem YW {b : Nat} {L : List AV} {es : List Int} {iY : List AV} (h : U.box b = some L) (hL : L = es.map (.int .i64) ++ iY) {i n : Nat} (hi : i < es.length) (hn : i < n) (hk : K' (.int .i64 es[i]) U) :
 (aF (some (3, 1)) none (.ms b 0 n 1 3) (.int .i64 (i : Nat))).wp K U (fun v U => (ao (some (false, 1)) v U).wp K U K' Kp) Kp := by
 rw [Aq]
 refine ⟨⟨by omega, by omega, rfl⟩, ?_⟩
 rw [fz h]
 have : L.drop (0 + (i : Int).toNat * 1) = .int .i64 es[i] :: ((es.map (AV.int .i64)).drop (i + 1) ++ iY) := by
  rw [hL, dR, Nat.mul_one, cr, List.drop_append_of_le_length (by simp; omega), gy (by simpa using hi)]
  simp
 rw [this, bM]
 exact hk
theorem BM {b bn : Nat} {es : List Int} {iY : List AV} {n : Int} (hb : U.box b = some (es.map (.int .i64) ++ iY)) (hn : U.box bn = some [.int .i64 n]) (hl : es.length <= 100000)
 (h : (∃ k, k < es.length /\ (es.take k).all (fun a => decide (n < a)) = true /\ (∃ hk : k < es.length, es[k] <= n) /\ R (.ret (.int .i64 (k : Nat))) U) \/ (es.all (fun a => decide (n < a)) = true /\ R (.ret (.int .i64 (-1))) U)) :
 af K 210 [.ms b 0 es.length 1 3, .func (.func 133) [] [.box bn 0]] U R := by
 refine Cd ?_
 unfold Ew
 simp only [J0, ah]
 refine ⟨fun m v0 v1 v7 v8 ae => ∃ i : Nat, m = es.length - i /\ i <= es.length /\ v0 = .ms b 0 es.length 1 3 /\ v1 = .func (.func 133) [] [.box bn 0] /\ v7 = .int .i64 es.length /\ v8 = .int .i64 i /\ ae = U /\ (es.take i).all (fun a => decide (n < a)) = true, ⟨_, 0, rfl, by omega, rfl, rfl, rfl, rfl, rfl, by simp⟩, ?_⟩
 rintro m v0 v1 v7 v8 ae ⟨i, rfl, hi, rfl, rfl, rfl, rfl, rfl, bm⟩
 simp only [bg, ah, aY]
 have zp : ∀ (k : Nat) (hk : k < es.length), (es.take i).all (fun a => decide (n < a)) = true -> k < i -> n < es[k] := fun k hk ha Gk => by
  rw [ef] at ha
  have : es[k] ∈ es.take i := by
   rw [List.mem_iff_getElem]
   exact ⟨k, by simp; omega, by simp⟩
  simpa using ha _ this
 refine ⟨fun aJ => ?_, fun fJ => ?_⟩
 · have aJ : i < es.length := by omega
   refine YW hb rfl aJ aJ ?_
   simp only [gp, show eg K.P 133 = true by kernel_rfl, if_true, jk, ik, kf]
   refine QG hn ?_
   simp only [bA, aY]
   refine ⟨fun hle => ?_, fun ti => ?_⟩
   · rcases h with ⟨k, hk, nY, ⟨_, fE⟩, hR⟩ | ⟨hA, _⟩
     · have : k = i := by
        rcases Nat.lt_trichotomy k i with h | h | h
        · have := zp k hk bm h; omega
        · exact h
        · rw [ef] at nY
          have hm : es[i] ∈ es.take k := by
           rw [List.mem_iff_getElem]
           exact ⟨i, by simp; omega, by simp⟩
          have := nY _ hm
          simp at this; omega
       subst this
       exact ak.mk hR
     · rw [ef] at hA
       have := hA es[i] (pU aJ)
       simp at this; omega
   · rw [cg]
     refine ⟨aS (by omega) (by omega), es.length - (i + 1), by omega, i + 1, rfl, by omega, rfl, rfl, rfl, by simp, rfl, ?_⟩
     rw [nH, js aJ, List.all_append, bm]
     simp; omega
 · have hi : i = es.length := by omega
   subst hi
   rw [oI] at bm
   rcases h with ⟨k, hk, nY, ⟨_, fE⟩, hR⟩ | ⟨_, hR⟩
   · rw [ef] at bm
     have := bm es[k] (pU hk)
     simp at this; omega
   · exact ak.mk hR
theorem Bw : ∀ (es : List Int) (n : Int), (∃ k, ∃ hk : k < es.length, (es.take k).all (fun a => decide (n < a)) = true /\ es[k] <= n) \/ es.all (fun a => decide (n < a)) = true
 | [], n => .inr rfl
 | a :: es, n => by
   by_cases ha : n < a
   · rcases Bw es n with ⟨k, hk, h1, h2⟩ | h
     · exact .inl ⟨k + 1, by simp; omega, by simp [ha, h1], by simpa using h2⟩
     · exact .inr (by simp [ha, h])
   · exact .inl ⟨0, by simp, by simp, by simp; omega⟩
theorem IW {v : AV} {bn : Nat} {es : List Int} {n : Int} (hv : mQ aG U v es) (hn : U.box bn = some [.int .i64 n]) (hl : es.length <= 100000) (hE : cL aG U) (zq : ∀ b, aG.live b = none -> v = .ms b 0 es.length 1 3 -> bn ≠ b)
 (h : ∀ ae v', mQ aG ae v' (es.filter (n < ·)) -> cL aG ae -> (∀ b x, (∀ k, v ≠ .ms b 0 k 1 3) -> U.box b = some x -> ae.box b = some x) -> (∀ b k, v' = .ms b 0 k 1 3 -> v = .ms b 0 es.length 1 3) -> R (.ret v') ae) : af K 132 [v, .func (.func 133) [] [.box bn 0]] U R := by
 refine K4 ?_
 unfold K3
 rcases hv with ⟨rfl, rfl⟩ | ⟨b, iY, rfl, hb, ve⟩
 ·
  have aal : af K 210 [.al, .func (.func 133) [] [.box bn 0]] U (ax (fun v10 U =>
   (aj .eql (BT.mk false false false none false) true v10 (AV.int .i64 (-1))).wp K U (fun v12 U => aq v12 (ak R .al U) False) (aa R)) (aa R)) := by
   refine Cd ?_
   unfold Ew
   simp only [len_nil, ah]
   refine ⟨fun m v0 v1 v7 v8 ae => v7 = .int .i64 0 /\ v8 = .int .i64 0 /\ ae = U, ⟨0, rfl, rfl, rfl⟩, ?_⟩
   rintro m v0 v1 v7 v8 ae ⟨rfl, rfl, rfl⟩
   simp only [bg, ah, show decide ((0 : Int) < 0) = false from rfl, aW]
   refine ak.mk ?_
   simp only [bA, aX, ah, bT, bf]
   exact ak.mk (h ae .al (.inl ⟨rfl, rfl⟩) hE (fun _ _ _ h => h) (fun _ _ e => by cases e))
  refine aal.mono fun r ae hr => ?_
  cases r with
  | panic x => exact hr
  | ret x =>
    simp only [bA] at hr ⊢
    refine au.wp_mono (fun v U hv => ?_) _ hr
    cases v <;> simp only [aq] at hv ⊢
    exact ⟨hv.1, fun e => (hv.2 e).elim⟩
 · have Jk : bn ≠ b := zq b ve rfl
   rcases Bw es n with ⟨k, hk, nY, fE⟩ | bm
   · refine BM hb hn hl (.inl ⟨k, hk, nY, ⟨hk, fE⟩, ?_⟩)
     have hkn : ¬ ((k : Nat) : Int) = -1 := by omega
     simp only [bA, aX, ah, hkn, ct, aW, cg]
     refine ⟨aS (by omega) (by omega), ?_⟩
     have Qi : (es.take (k + 1)).filter (n < ·) = es.take k := by
      rw [nH, js hk, List.filter_append]
      have h1 : (es.take k).filter (n < ·) = es.take k := by
       rw [List.filter_eq_self]
       intro a ha
       rw [ef] at nY
       exact nY a ha
      rw [h1]
      have : ¬ n < es[k] := by omega
      simp [this]
     refine ⟨fun m v0 v1 v5 v6 ae => ∃ (i j : Nat) (arr : List AV), m = es.length - j /\ v0 = .ms b 0 es.length 1 3 /\ v1 = .func (.func 133) [] [.box bn 0] /\ v5 = .int .i64 (i : Nat) /\ v6 = .int .i64 (j : Nat) /\ j <= es.length /\ i < j /\ ae.box b = some arr /\ arr.take i = ((es.take j).filter (n < ·)).map (.int .i64) /\ i = ((es.take j).filter (n < ·)).length /\ arr.drop j = (es.drop j).map (.int .i64) ++ iY /\ arr.length = es.length + iY.length /\ (∀ c, c ≠ b -> ae.live c = U.live c),
      ⟨_, k, k + 1, es.map (.int .i64) ++ iY, rfl, rfl, rfl, rfl, by simp, by omega, by omega, hb, ?_, ?_, ?_, by simp, fun _ _ => rfl⟩, ?_⟩
     · rw [Qi, List.take_append_of_le_length (by simp; omega), <- List.map_take]
     · rw [Qi]; simp; omega
     · rw [List.drop_append_of_le_length (by simp; omega), <- List.map_drop]
     · rintro m v0 v1 v5 v6 ae ⟨i, j, arr, rfl, rfl, rfl, rfl, rfl, hj, fS, dm, Gf, UR, Zf, ha4, rJ⟩
       simp only [J0, ah, bg, aY]
       refine ⟨fun aJ => ?_, fun fJ => ?_⟩
       · have aJ : j < es.length := by omega
         intro jj xP
         have ZD : ae.box bn = some [.int .i64 n] := by rw [gR (rJ bn Jk)]; exact hn
         rw [Aq]
         refine ⟨⟨by omega, by omega, rfl⟩, ?_⟩
         rw [fz dm]
         obtain ⟨rr, hd⟩ : ∃ rr, arr.drop (0 + (j : Int).toNat * 1) = .int .i64 es[j] :: rr := by
          rw [dR, Nat.mul_one, cr, Zf, gy aJ, dJ]
          exact ⟨_, rfl⟩
         rw [hd, bM]
         simp only [gp, show eg K.P 133 = true by kernel_rfl, if_true, jk, ik, kf]
         refine QG ZD ?_
         have oT : es.take (j + 1) = es.take j ++ [es[j]] := by rw [nH, js aJ]; rfl
         have xN : arr.drop (j + 1) = (es.drop (j + 1)).map (.int .i64) ++ iY := by
          rw [<- List.drop_drop, Zf, gy aJ, dJ]; rfl
         simp only [bA, c8, ah]
         by_cases hle : es[j] <= n
         · simp only [hle, bT, ca, aW]
           refine xP _ _ _ _ _ ?_
           simp only [cg]
           refine ⟨aS (by omega) (by omega), es.length - (j + 1), by omega, i, j + 1, arr, rfl, rfl, rfl, rfl, by simp, by omega, by omega, dm, ?_, ?_, xN, ha4, rJ⟩
           · rw [oT, List.filter_append, Gf]
             have : ¬ n < es[j] := by omega
             simp [this]
           · rw [oT, List.filter_append]
             have : ¬ n < es[j] := by omega
             simp only [List.filter_cons, this, ct, bo, if_false, List.filter_nil, iy]
             exact UR
         · simp only [hle, ct, dt, bf]
           rw [Aq]
           refine ⟨⟨by omega, by omega, rfl⟩, ?_⟩
           rw [cI dm]
           refine ⟨⟨rfl, rfl, by simp; omega⟩, ?_⟩
           rw [cg]
           refine ⟨aS (by omega) (by omega), ?_⟩
           refine xP _ _ _ _ _ ?_
           simp only [cg]
           have zE : aB arr (0 + (i : Int).toNat * 1) (ay (.int .i64 es[j])) = arr.take i ++ [.int .i64 es[j]] ++ arr.drop (i + 1) := by
            simp [aB]
           have rI : (arr.take i).length = i := by simp; omega
           refine ⟨aS (by omega) (by omega), es.length - (j + 1), by omega, i + 1, j + 1, _, rfl, rfl, rfl, by simp, by simp, by omega, by omega, aT, ?_, ?_, ?_, ?_, fun c hc => by rw [eS, if_neg hc]; exact rJ c hc⟩
           · rw [zE, List.take_append_of_le_length (by simp; omega), o7 (by simp; omega), Gf, oT, List.filter_append]
             have : n < es[j] := by omega
             simp [this]
           · rw [oT, List.filter_append]
             have : n < es[j] := by omega
             simp only [List.filter_cons, this, bT, if_true, List.filter_nil, eU, jL, o8]
             omega
           · rw [zE, <- xN]
             rw [List.drop_append, List.drop_eq_nil_of_le (by simp; omega), ik, List.drop_drop]
             congr 1
             simp
             omega
           · rw [zE]; simp; omega
       · have hje : j = es.length := by omega
         subst hje
         rw [oI] at Gf UR
         simp only [dx, dc, wp_cond, ah]
         refine ⟨⟨by omega, by omega, by omega, by omega, trivial⟩, ?_⟩
         simp only [zc, dm, wp_cond, jG]
         refine ⟨⟨trivial, by simp; omega⟩, ⟨by omega, by omega, by omega, by simp, trivial⟩, ?_⟩
         refine ak.mk (h _ _ (.inr ⟨b, (aB arr (0 + (i : Int).toNat * 1) (bK ((es.length : Int).toNat - (i : Int).toNat) [.int .i64 0])).drop i, ?_, ?_, ve⟩) ?_ ?_ ?_)
         · simp [UR]
         · rw [aT]
           congr 1
           have hz : (bK (es.length - i) [AV.int .i64 0]).length = es.length - i := by simp [ju]
           simp only [dR, Nat.mul_one, cr]
           conv => lhs; rw [<- List.take_append_drop i (aB arr i _)]
           congr 1
           simp only [aB, nI]
           rw [List.take_append_of_le_length (by simp; omega), o7 (by simp; omega)]
           exact Gf
         · refine cL.set (fun c x e => ?_) ve
           by_cases hc : c = b
           · subst hc; rw [ve] at e; cases e
           · rw [rJ c hc]; exact hE c x e
         · intro c x hc hx
           have Zg : c ≠ b := fun e => hc es.length (by rw [e])
           rw [aP Zg, gR (rJ c Zg)]; exact hx
         · intro c k e
           simp only [AV.ms.injEq] at e
           rw [e.1]
   · refine BM hb hn hl (.inr ⟨bm, ?_⟩)
     simp only [bA, aX, ah, bT, bf]
     have hf : es.filter (n < ·) = es := by
      rw [List.filter_eq_self]
      intro a ha
      rw [ef] at bm
      exact bm a ha
     exact ak.mk (h U _ (by rw [hf]; exact .inr ⟨b, iY, rfl, hb, ve⟩) hE (fun _ _ _ h => h) (fun b' k e => by cases e; rfl))
end
end Go.Rip
namespace Go.Rip
open Go.Proofs Go.RowKit
section
variable {aG U : St} {R : cD -> St -> Prop} {K' : AV -> St -> Prop} {Kp : AV -> St -> Prop} {v : AV} {es : List Int}
theorem Oa (h : mQ aG U v es) : bz (some false) v = .val (.int .i64 es.length) := by
 rcases h with ⟨rfl, rfl⟩ | ⟨b, iY, rfl, _, _⟩ <;> rfl
theorem N9 {bx : Nat} {a : Int} (hv : mQ aG U v es) (hy : U.box bx = some [.int .i64 a]) (E : cL aG U) (hl : es.length <= 100000) (h : ∀ ae v', mQ aG ae v' (es ++ [a]) -> cL aG ae -> K' v' ae) :
 (dM (some (3, 1)) true v (.ms bx 0 1 1 3) U).wp K U K' Kp := by
 have HA : pc U (.ms bx 0 1 1 3) = some (1, [.int .i64 a]) := by simp [pc, hy]
 rcases hv with ⟨rfl, rfl⟩ | ⟨b, iY, rfl, hb, ve⟩
 · simp only [dM, HA, wp_cond]
   refine ⟨rfl, by omega, fun b hf => ?_⟩
   exact h _ _ (.inr ⟨b, [], rfl, by rw [show U.pQ none = U from rfl]; exact aN, E.fresh hf.1⟩) (E.new hf)
 · refine NF hb HA ⟨rfl, by simp, by omega⟩ fun b' hf => ?_
   refine h _ _ (.inr ⟨b', [], by simp, ?_, ?_⟩) ((E.del ve).new hf)
   · rw [aN]; simp
   · have hd := hf.1
     by_cases e : b' = b
     · rw [e]; exact ve
     · rw [lU, if_neg e] at hd; exact E.fresh hd
end
theorem Ho {v : AV} {l : List Nd} (hv : eh v l.length (bC l)) (hc : closed v = true) (hl : l.length <= 100000) (h0 : l ≠ []) (hs : ∀ x ∈ l, 0 <= x.size /\ x.size <= 100000) (rL : jT l <= l.length) : Pure K 69 [.agg [v]] (.bool (qL l)) := by
 refine Pure.of (by simp [bV, closed, hc]) rfl (fun U => rfl) fun R hR => ?_
 refine Pm ?_
 unfold Q4
 rw [ff rfl]
 intro b1 eH
 have m1 : ((bD ⟨.e, 0⟩).new b1 (.box (ay (.agg [v])))).box b1 = some [v] := aN
 generalize (bD _).new b1 _ = aG at *
 clear eH
 simp only [aV, ah, cr]
 rw [fz m1, ez, bM, hv.len, ah]
 refine ⟨fun m v1 v2 v3 v8 v9 v10 ae => ∃ (i : Nat) (es : List Int), m = l.length - i /\ v1 = .box b1 0 /\ v2 = .bool false /\ v8 = v /\ v9 = .int .i64 l.length /\ v10 = .int .i64 (i : Nat) /\ i <= l.length /\ mQ aG ae v3 es /\ es.length <= i /\ ir (l.drop i) i es = ir l 0 [] /\ cL aG ae,
  ⟨_, 0, [], rfl, rfl, rfl, rfl, rfl, rfl, by omega, .inl ⟨rfl, rfl⟩, by simp, rfl, cL.refl _⟩, ?_⟩
 rintro m v1 v2 v3 v8 v9 v10 bJ ⟨i, es, rfl, rfl, rfl, rfl, rfl, rfl, hi, vZ, U1, hg, E1⟩
 simp only [bg, ah, aY]
 refine ⟨fun aJ => ?_, fun fJ => ?_⟩
 · have aJ : i < l.length := by omega
   obtain ⟨x, hx⟩ : ∃ x, l[i]? = some x := ⟨l[i], by simp [aJ]⟩
   have vY : l.drop i = x :: l.drop (i + 1) := by
    rw [gy aJ]
    have := (dF.1 hx).2
    rw [this]
   rw [vY, ir] at hg
   refine EY hv hx fun r => ?_
   rw [xA]
   refine ⟨by simp [bO], ?_⟩
   have Dj : (bO x ++ r).take 6 = bO x := by simp [bO]
   rw [Dj, cN]
   intro b4 lR
   rw [cN]
   intro b5 Jj
   have m4 : (bJ.new b4 (.box [.int .i64 0])).box b4 = some [.int .i64 0] := aN
   have Z6 := Jj.cx m4
   have f4 := E1.fresh lR.1
   have E2 := E1.new lR (x := .box [.int .i64 0])
   have Oz : mQ aG (bJ.new b4 (.box [.int .i64 0])) v3 es /\ (∀ b, v3 = .ms b 0 es.length 1 3 -> b4 ≠ b) := by
    rcases vZ with h | ⟨b, iY, rfl, h2, h3⟩
    · exact ⟨.inl h, fun b e => by rw [h.2] at e; cases e⟩
    · have := lR.cx h2
      exact ⟨.inr ⟨b, iY, rfl, by rw [om this]; exact h2, h3⟩, fun b' e => by cases e; exact this.symm⟩
   obtain ⟨Oz, OC⟩ := Oz
   clear vZ
   generalize bJ.new b4 (.box [.int .i64 0]) = bP at *
   have m5 : (bP.new b5 (.box [AV.int .u8 0, AV.str [], AV.int .i64 0, AV.int .i64 0, AV.int .i64 0, AV.int .i64 0])).box b5 = some [AV.int .u8 0, AV.str [], AV.int .i64 0, AV.int .i64 0, AV.int .i64 0, AV.int .i64 0] := aN
   have f5 := E2.fresh Jj.1
   have E3 := E2.new Jj (x := .box [AV.int .u8 0, AV.str [], AV.int .i64 0, AV.int .i64 0, AV.int .i64 0, AV.int .i64 0])
   have m4' := (bE Jj (x := .box [AV.int .u8 0, AV.str [], AV.int .i64 0, AV.int .i64 0, AV.int .i64 0, AV.int .i64 0])).bj m4
   have OA : mQ aG (bP.new b5 (.box [AV.int .u8 0, AV.str [], AV.int .i64 0, AV.int .i64 0, AV.int .i64 0, AV.int .i64 0])) v3 es /\ (∀ b, v3 = .ms b 0 es.length 1 3 -> b5 ≠ b) := by
    rcases Oz with h | ⟨b, iY, rfl, h2, h3⟩
    · exact ⟨.inl h, fun b e => by rw [h.2] at e; cases e⟩
    · have := Jj.cx h2
      exact ⟨.inr ⟨b, iY, rfl, by rw [om this]; exact h2, h3⟩, fun b' e => by cases e; exact this.symm⟩
   obtain ⟨OA, Vr⟩ := OA
   generalize bP.new b5 (.box [AV.int .u8 0, AV.str [], AV.int .i64 0, AV.int .i64 0, AV.int .i64 0, AV.int .i64 0]) = cJ at *
   rw [cI m4']
   refine ⟨⟨rfl, rfl, by simp⟩, ?_⟩
   rw [cI (show (cJ.set b4 _).box b5 = some _ by rw [aP Z6.symm]; exact m5)]
   refine ⟨⟨rfl, rfl, by simp [bO]⟩, ?_⟩
   have E4 := (E3.set f4 (x := .box (aB [.int .i64 0] 0 (ay (.int .i64 (i : Nat)))))).set f5 (x := .box (aB [AV.int .u8 0, AV.str [], AV.int .i64 0, AV.int .i64 0, AV.int .i64 0, AV.int .i64 0] 0 (ay (.agg (bO x)))))
   have g4 : ((cJ.set b4 (.box (aB [.int .i64 0] 0 (ay (.int .i64 (i : Nat)))))).set b5 (.box (aB [AV.int .u8 0, AV.str [], AV.int .i64 0, AV.int .i64 0, AV.int .i64 0, AV.int .i64 0] 0 (ay (.agg (bO x)))))).box b4 = some [.int .i64 (i : Nat)] := by
    rw [aP Z6, aT]; rfl
   have g5 : ((cJ.set b4 (.box (aB [.int .i64 0] 0 (ay (.int .i64 (i : Nat)))))).set b5 (.box (aB [AV.int .u8 0, AV.str [], AV.int .i64 0, AV.int .i64 0, AV.int .i64 0, AV.int .i64 0] 0 (ay (.agg (bO x)))))).box b5 = some (bO x) := by
    rw [aT]; rfl
   have U2 : mQ aG ((cJ.set b4 (.box (aB [.int .i64 0] 0 (ay (.int .i64 (i : Nat)))))).set b5 (.box (aB [AV.int .u8 0, AV.str [], AV.int .i64 0, AV.int .i64 0, AV.int .i64 0, AV.int .i64 0] 0 (ay (.agg (bO x)))))) v3 es := by
    rcases OA with h | ⟨b, iY, rfl, h2, h3⟩
    · exact .inl h
    · exact .inr ⟨b, iY, rfl, by rw [aP (Vr b rfl).symm, aP (OC b rfl).symm]; exact h2, h3⟩
   generalize (cJ.set b4 (.box (aB [.int .i64 0] 0 (ay (.int .i64 (i : Nat)))))).set b5 (.box (aB [AV.int .u8 0, AV.str [], AV.int .i64 0, AV.int .i64 0, AV.int .i64 0, AV.int .i64 0] 0 (ay (.agg (bO x))))) = cu at *
   refine IW U2 g4 (by omega) E4 (fun b _ e => OC b e) fun dI v' U3 E5 hk5 _ => ?_
   have nv : ∀ b y, b4 = b \/ b5 = b -> cu.box b = some y -> dI.box b = some y := fun b y hb hy => by
    refine hk5 b y (fun k e => ?_) hy
    rcases U2 with h | ⟨b', iY, rfl, h2, h3⟩
    · rw [h.2] at e; cases e
    · simp only [AV.ms.injEq] at e
      rcases hb with rfl | rfl
      · exact OC b' rfl e.1.symm
      · exact Vr b' rfl e.1.symm
   have Y3 := nv b4 _ (.inl rfl) g4
   have Y4 := nv b5 _ (.inr rfl) g5
   simp only [bA, Oa U3, ah, dK, aY]
   have qO : (es.filter ((i : Int) < ·)).length <= es.length := List.length_filter_le _ _
   refine ⟨fun ti => ?_, fun hle => ?_⟩
   · rw [if_pos (by omega)] at hg
     refine ak.mk ?_
     have : qL l = true := by simp [qL, <- hg]
     rw [this] at hR
     exact hR _
   · rw [if_neg (by omega)] at hg
     have BH := hs x (fO hx)
     rw [fz Y3, ez, bM]
     simp only [aV, ah, cr]
     rw [fz Y4]
     simp only [bO, List.drop, bM, cg]
     refine ⟨aS (by omega) (by omega), ?_⟩
     rw [NI]
     refine ⟨by omega, ?_⟩
     rw [eO (o := 0) (s := 1) rfl]
     refine ⟨⟨rfl, rfl, by simp [bK]⟩, ?_⟩
     rw [SO]
     refine ⟨rfl, fun bx pZ => ?_⟩
     have aav : mQ aG (dI.new bx (.box (aB (bK 1 [AV.int .i64 0]) 0 (ay (.int .i64 ((i : Int) + x.size)))))) v' (es.filter ((i : Int) < ·)) := by
      rcases U3 with h | ⟨b', iY, rfl, h2, h3⟩
      · exact .inl h
      · exact .inr ⟨b', iY, rfl, by rw [om (pZ.cx h2)]; exact h2, h3⟩
     refine N9 aav (by rw [aN]; rfl) (E5.new pZ) (by omega) fun nq v7 aaw E7 => ?_
     refine ⟨aS (by omega) (by omega), l.length - (i + 1), by omega, i + 1, _, rfl, rfl, rfl, rfl, rfl, by simp, by omega, aaw, by simp; omega, hg, E7⟩
 · have hi : i = l.length := by omega
   subst hi
   rw [List.drop_length] at hg
   have Jr : ir l 0 [] = false := hg.symm
   have ti : qL l = decide (24 < (gh l (jT l) l.length 1).length) := by simp [qL, Jr]
   rw [ti] at hR
   rw [cN]
   intro b6 nX
   have m6 : (bJ.new b6 (.box [.int .i64 0])).box b6 = some [.int .i64 0] := aN
   have J5 := (E1.new nX (x := .box [.int .i64 0])).bj m1
   have n16 := nX.cx (E1.bj m1)
   generalize bJ.new b6 (.box [.int .i64 0]) = bP at *
   rw [cI m6]
   refine ⟨⟨rfl, rfl, by simp⟩, ?_⟩
   have B2 : (bP.set b6 (.box (aB [.int .i64 0] 0 (ay (.int .i64 0))))).box b6 = some [.int .i64 (([] : List Nat).length : Nat)] := by rw [aT]; rfl
   have aaZ : (bP.set b6 (.box (aB [.int .i64 0] 0 (ay (.int .i64 0))))).box b1 = some [v8] := by rw [aP n16]; exact J5
   generalize bP.set b6 (.box (aB [.int .i64 0] 0 (ay (.int .i64 0)))) = cJ at *
   rw [qq aaZ]
   refine ⟨by simp, ?_⟩
   refine oQ [v8] (by simp [vG, hv.cQ, aB]) ?_
   cases l with
   | nil => exact absurd rfl h0
   | cons x0 l =>
   have hx0 := hs x0 (by simp)
   refine D0 (n := 0) (x := x0) hv rfl (aS (by simp; omega) (by simp; omega)) fun bn be bt cu d1 d2 d3 f1 f2 f3 k1 k2 k3 e4 => ?_
   have m6n := e4.bj B2
   have en : (((0 : Nat) : Int) + x0.size) = jT (x0 :: l) := by simp [jT]
   rw [en] at k2
   have nn : bn ≠ b6 := fun e => by rw [e] at f1; exact de B2 f1
   have ne : be ≠ b6 := fun e => by rw [e] at f2; exact de B2 f2
   have nt : bt ≠ b6 := fun e => by rw [e] at f3; exact de B2 f3
   refine z6 (fun ks U => U.box b6 = some [.int .i64 (ks.length : Nat)] /\ U.box bn = some [.int .i64 ((0 : Nat) : Int)] /\ U.box be = some [.int .i64 (jT (x0 :: l))] /\ U.box bt = some [v8] /\ True) (fun _ => False) hv (by simp) (by omega) rL
    (fun ks U h => h.2.imp id fun h => h.imp id fun h => h.1) (fun ks U o L L' h hL => ?_) (fun ks U o L h ho => ?_) (fun _ _ _ _ h => h.elim) (fun ks fX x dI o L1 q hI hx aJ nA hnk vi _ hL hn hr => ?_) (fun ks dI o L iE hI hL => ?_) (fun _ _ _ h => h.elim) ⟨m6n, k1, k2, k3, trivial⟩
   · exact ⟨by rw [aP (cT h.1 hL)]; exact h.1, by rw [aP (cT h.2.1 hL)]; exact h.2.1, by rw [aP (cT h.2.2.1 hL)]; exact h.2.2.1, by rw [aP (cT h.2.2.2.1 hL)]; exact h.2.2.2.1, h.2.2.2.2⟩
   · have e := bE ho (x := .loop L)
     exact ⟨e.bj h.1, e.bj h.2.1, e.bj h.2.2.1, e.bj h.2.2.2.1, h.2.2.2.2⟩
   · obtain ⟨i1, i2, i3, i4, i5⟩ := hI
     rw [fz i1, ez, bM, cg]
     refine ⟨aS (by omega) (by omega), ?_⟩
     rw [cI i1]
     refine ⟨⟨rfl, rfl, by simp⟩, ?_⟩
     refine hn _ ⟨by rw [aT]; simp [aB], by rw [aP nn]; exact i2, by rw [aP ne]; exact i3, by rw [aP nt]; exact i4, trivial⟩ (hs x (fO hx)).2 (by rw [gr]; exact hL; rw [eS, if_neg (cT i1 hL).symm])
   · obtain ⟨i1, i2, i3, i4, i5⟩ := hI
     have i1' : (dI.del o).box b6 = some [.int .i64 (ks.length : Nat)] := by rw [jA (cT i1 hL)]; exact i1
     show (ao (some (false, 1)) (.box b6 0) (dI.del o)).wp K (dI.del o) _ _
     rw [fz i1', ez, bM]
     simp only [dK, ah]
     subst iE
     refine ak.mk ?_
     have := hR (dI.del o)
     have e : decide ((24 : Int) < ((gh (x0 :: l) (jT (x0 :: l)) (x0 :: l).length (0 + 1)).length : Nat)) = decide (24 < (gh (x0 :: l) (jT (x0 :: l)) (x0 :: l).length 1).length) := by
      rw [lY]; simp only [c7, cr]; omega
     rw [e]; exact this
end Go.Rip
namespace Go.Rip
open Go.Proofs Go.RowKit
theorem KI {U : St} {a b : Nat} {l : List AV} (h : b ≠ a) : (U.bU a l).live b = U.live b := by
 simp [St.bU, St.set, h]
theorem il.bU {r : Nat} {U ae : St} {b : Nat} {l : List AV} (h : il r U ae) (n : U.live b = none) : il r U (ae.bU b l) := fun c y m e => by
 by_cases hc : c = b
 · subst hc; rw [n] at e; cases e
 · rw [KI hc]; exact h c y m e
theorem eA.scalar {a : AV} {ns : List Nd} (hk : eA false [a] ns) : a.scalar = true := by
 generalize hb : false = b at hk
 generalize hl : [a] = la at hk
 cases hk with
 | mk _ _ => cases hl; rfl
 | nil => cases hl
 | cons _ _ => cases hb
section
variable {X : Rx} {r i : Nat} {U : St} {R : cD -> St -> Prop}
end
def fx (l : List Nd) : AV := if l = [] then .al else .vec l.length .hX (bC l)
end Go.Rip
