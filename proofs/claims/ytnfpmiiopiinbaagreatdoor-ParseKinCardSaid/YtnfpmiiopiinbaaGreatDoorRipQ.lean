/- Lemmas for the proof: no conditions. -/
import Derived.Test.YtnfpmiiopiinbaaGreatDoorRipZz
import Derived.Test.YtnfpmiiopiinbaaGreatDoorRipO
import Derived.Test.YtnfpmiiopiinbaaGreatDoorRipP
import Derived.Test.YtnfpmiiopiinbaaGreatDoorRipI
import Derived.Test.YtnfpmiiopiinbaaGreatDoorRipK
set_option linter.unusedVariables false
set_option linter.unusedSimpArgs false
set_option linter.loopingSimpArgs false
namespace Go.Rip
open Go.Proofs Go.RowKit
def cS (x : Nd) : List AV := [.int .u8 x.kind, .str x.text, .int .i64 x.n, .int .i64 x.m, .int .i64 x.at_, .int .i64 x.size]
def cR (l : List Nd) : List AV := l.flatMap cS
theorem p4 (L : List Nd) : (cR L).length = 6 * L.length := by
 induction L with
 | nil => rfl
 | cons t L ih =>
   have : (cR (t :: L)).length = 6 + (cR L).length := by simp [cR, cS]; omega
   rw [this, ih, mB]; omega
theorem Hk (L : List Nd) (i : Nat) : (cR L).drop (i * 6) = cR (L.drop i) := by
 induction L generalizing i with
 | nil => simp [cR]
 | cons t L ih =>
   cases i with
   | zero => simp
   | succ i =>
     rw [Nat.add_mul, show i * 6 + 1 * 6 = 6 + i * 6 by omega, <- List.drop_drop, List.drop_succ_cons, <- ih]
     rfl
theorem uz {L : List Nd} {i : Nat} {t : Nd} (h : L[i]? = some t) : ∃ r, (cR L).drop (i * 6) = cS t ++ r := by
 rw [Hk, fT (cT.1 h).1]
 refine ⟨cR (L.drop (i + 1)), ?_⟩
 have := (cT.1 h).2
 simp [cR, this]
section
variable {C : bQ} {U : St} {K' : AV -> St -> Prop} {Kp : AV -> St -> Prop} {e sz n b m : Nat} {L l2 z : List AV} {y : AV}
theorem JL {ps : List (Nat × AV)} : (aD (some (e, sz)) (some z) n true ps).wp C U K' Kp = (n * sz <= 16777216 /\ (dY (fun i => some (i * sz, sz)) ps (bp n z) fun cs => .cond (cs.length = n * sz) (.ku n sz e none cs)).wp C U K' Kp) := by
 simp only [aD, if_true]; rfl
theorem OF {pl : Nat -> Option (Nat × Nat)} {k : Nat} : (dY pl [] L fun cs => .cond (cs.length = k) (.ku n sz e none cs)).wp C U K' Kp = (L.length = k /\ ∀ b, U.cj b -> K' (.ms b 0 n sz e) (U.new b (.box L))) := rfl
theorem Ss {mu : Bool} (hb : U.box b = some L) (hy : nL U y = some (m, l2)) (h : l2.length = m * sz /\ n * sz <= L.length /\ n + m <= 4294967296) (hk : ∀ b', (U.del b).cj b' -> K' (.ms b' 0 (n + m) sz e) ((U.del b).new b' (.box (L.take (n * sz) ++ l2)))) : (eN (some (e, sz)) mu (.ms b 0 n sz e) y U).wp C U K' Kp := by
 simp only [eN, hy, hb, wp_cond]
 exact ⟨h.1, ⟨trivial, trivial, trivial, h.2.1, h.2.2⟩, hk⟩
end
theorem dq.split {ks : List AV} {l : List Nd} {a : AV} {i : Nat} (h : dq true (ks.drop i) l) (ha : ks[i]? = some a) : ∃ l1 l2, l = l1 ++ l2 /\ dq false [a] l1 /\ dq true (ks.drop (i + 1)) l2 := by
 obtain ⟨aH, rfl⟩ := cT.1 ha
 rw [fT aH] at h
 generalize hb : true = b at h
 generalize hl : ks[i] :: ks.drop (i + 1) = la at h
 cases h with
 | mk _ _ => cases hb
 | nil => cases hl
 | cons h1 h2 => cases hl; exact ⟨_, _, rfl, h1, h2⟩
theorem dq.le : ∀ {ks : List AV} {l : List Nd}, dq true ks l -> ks.length <= l.length
 | [], _, _ => by simp
 | a :: ks, l, h => by
   obtain ⟨l1, l2, rfl, h1, h2⟩ := dq.split (ks := a :: ks) (a := a) (i := 0) h rfl
   obtain ⟨x, r, e, _⟩ := h1.size
   have := dq.le (ks := ks) h2
   rw [e]; simp; omega
end Go.Rip
namespace Go.Rip
open Go.Proofs Go.RowKit
theorem eS.Up {v : AV} {l : List Nd} (h : eS v l.length (cR l)) {i : Nat} {x : Nd} (hx : l[i]? = some x) {e : Nat} : ∃ r, aJ (some (e, 6)) none v (.int .i64 (i : Int)) = .cond (0 <= (i : Int) /\ (i : Int) < l.length) (.val (.bL (cS x ++ r))) := by
 obtain ⟨c, rfl, nP⟩ := h.at (sz := 6) (e := e) (cT.1 hx).1
 obtain ⟨r, hr⟩ := uz hx
 exact ⟨r, by rw [nP, hr]⟩
section
variable {C : bQ} {U : St} {K' : AV -> St -> Prop} {Kp : AV -> St -> Prop} {k : AV -> Prop} {v : AV} {l : List Nd} {i e : Nat} {x : Nd}
theorem FM (h : eS v l.length (cR l)) (hx : l[i]? = some x) (hk : ∀ r, K' (.bL (cS x ++ r)) U) : (aJ (some (e, 6)) none v (.int .i64 (i : Int))).wp C U K' Kp := by
 obtain ⟨r, hr⟩ := h.Up hx (e := e)
 rw [hr]
 have := (cT.1 hx).1
 exact ⟨by omega, hk r⟩
theorem yn (h : eS v l.length (cR l)) (hx : l[i]? = some x) (hk : ∀ r, k (.bL (cS x ++ r))) : av C (aJ (some (e, 6)) none v (.int .i64 (i : Int))) k := by
 obtain ⟨r, hr⟩ := h.Up hx (e := e)
 rw [hr]
 have := (cT.1 hx).1
 exact ⟨by omega, hk r⟩
end
theorem eS.cr {v : AV} {n : Nat} {cs : List AV} (h : eS v n cs) : v.cr = true /\ au v = [v] := by
 rcases h with ⟨rfl, rfl, rfl⟩ | ⟨c, rfl⟩ <;> exact ⟨rfl, rfl⟩
theorem vF {U : St} {R : cm -> St -> Prop} {v : AV} {l : List Nd} {n : Nat} {x : Nd} (hv : eS v l.length (cR l)) (hx : l[n]? = some x) (Xt : su ((n : Int) + x.size))
 (h : ∀ bn be bt ad, bn ≠ be -> bn ≠ bt -> be ≠ bt -> U.live bn = none -> U.live be = none -> U.live bt = none -> ad.box bn = some [.int .i64 (n : Nat)] -> ad.box be = some [.int .i64 ((n : Int) + x.size)] -> ad.box bt = some [v] -> cF U ad -> R (.ret (.func (.func 155) [] [.box bn 0, .box be 0, .box bt 0])) ad) : ae K 81 [.agg [v], .int .i64 (n : Nat)] U R := by
 refine Lw ?_
 unfold Nc
 rw [eH rfl]
 intro bt UI
 rw [eH rfl]
 intro bn Gv
 have mt : (U.new bt (.box (au (.agg [v])))).box bt = some [v] := aN
 have e1 := bz UI (x := .box (au (.agg [v])))
 have Xk : U.live bt = none := UI.1
 generalize U.new bt (.box (au (.agg [v]))) = bM at *
 have e2 := bz Gv (x := .box (au (.int .i64 (n : Nat))))
 have mn : (bM.new bn (.box (au (.int .i64 (n : Nat))))).box bn = some [.int .i64 (n : Nat)] := aN
 have Y4 := Gv.ca mt
 have Xl : U.live bn = none := e1.fresh Gv.1
 generalize bM.new bn (.box (au (.int .i64 (n : Nat)))) = bN at *
 have Q9 := e2.bA mt
 simp only [nJ mn, dC, eP, aU, aC, ck, nJ Q9]
 refine yn hv hx fun r => ?_
 simp only [cJ, aC, cS, jn, List.drop, lj, eP, zW]
 refine ⟨Xt, ?_⟩
 rw [dv]
 intro be qx
 have e3 := bz qx (x := .box [.int .i64 0])
 have me : (bN.new be (.box [.int .i64 0])).box be = some [.int .i64 0] := aN
 have Rc := qx.ca mn
 have Rf := qx.ca Q9
 have Uu : U.live be = none := (e1.trans e2).fresh qx.1
 refine ⟨?_, ?_⟩
 · intro b hb
   simp only [cQ, iN, jI, dD, fx, List.not_mem_nil, or_false] at hb
   have : b = bn \/ b = bt := by
    rcases hb with h | h | h <;> simp_all
   rw [lE]
   rcases this with rfl | rfl
   · rw [if_neg Rc]
   · rw [if_neg Rf]
 · rw [dh me]
   refine ⟨⟨rfl, rfl, by simp⟩, aj.mk (h bn be bt _ Rc Y4.symm Rf.symm Xl Uu Xk ?_ ?_ ?_ ((e1.trans (e2.trans e3)).set Uu))⟩
   · rw [aP Rc]; exact e3.bA mn
   · rw [aZ]; rfl
   · rw [aP Rf]; exact e3.bA Q9
theorem rG (l : List Nd) (en : Int) : ∀ (f p : Nat), (ej l en f p).length <= f
 | 0, _ => by simp [ej]
 | f + 1, p => by
   simp only [ej]
   split
   · split
     · have := rG l en f (p + (Nd.size ‹_›).toNat)
       simp; omega
     · simp
   · simp
theorem rZ {v : AV} {l : List Nd} {n : Nat} {en : Int} {bn be bt : Nat} {U : St} {B : AV -> Qr -> St -> Prop} {Kn : St -> Prop} {Ke : Nat -> St -> Prop} {Kr : St -> Prop} {Kp : AV -> St -> Prop} (I : List Nat -> St -> Prop) (J : St -> Prop)
 (hv : eS v l.length (cR l)) (hn : n < l.length) (hlen : l.length <= 100000) (Mi : en <= l.length)
 (Ks : ∀ ks U, I ks U -> U.box bn = some [.int .i64 (n : Nat)] /\ U.box be = some [.int .i64 en] /\ U.box bt = some [v])
 (Mr : ∀ ks U o L L', I ks U -> U.loop o = some L -> I ks (U.set o (.loop L')))
 (lA : ∀ ks U o L, I ks U -> U.cj o -> I ks (U.new o (.loop L)))
 (hJ : ∀ U o L L', J U -> U.loop o = some L -> J (U.set o (.loop L')))
 (body : ∀ (ks : List Nat) (jY : Nat) (x : Nd) (bM : St) (o : Nat) (L1 : eg) (q : Qr), I ks bM -> l[jY]? = some x -> (jY : Int) < en -> 0 < x.size -> n < jY -> ks.length < l.length -> (∃ r, ej l en l.length (n + 1) = ks ++ jY :: r) -> bM.loop o = some L1 ->
   (∀ bN, I (ks ++ [jY]) bN -> x.size <= 100000 -> bN.loop o = some L1 -> q.n bN) -> (∀ bN, J bN -> bN.loop o = some L1 -> q.r bN) -> B (.int .i64 (jY : Nat)) q bM)
 (fin : ∀ ks bM o L, ks = ej l en l.length (n + 1) -> I ks bM -> bM.loop o = some L -> Kn (bM.del o))
 (VM : ∀ bM o L, J bM -> bM.loop o = some L -> Kr (bM.del o))
 (h0 : I [] U) : oZ K 1 (.func (.func 155) [] [.box bn 0, .box be 0, .box bt 0]) U (fun v q U => q.Bw (fun U => B v q U) U) Kn Ke Kr Kp := by
 refine ⟨by kernel_rfl, fun o L ho Gt Qa Y => ?_⟩
 have I1 := lA _ _ o L h0 ho
 have L8 := uX (U := U) (b := o) (L := L)
 generalize U.new o (.loop L) = bM at *
 refine Io ?_
 unfold Im
 rw [eK (Ks _ _ I1).1, dC, bD, cW]
 refine ⟨bh (by omega) (by omega), ?_⟩
 refine ⟨fun m v0 v2 v3 v5 ad => ∃ ks f p, m = l.length - p /\ v0 = .nB o /\ v2 = .box be 0 /\ v3 = .box bt 0 /\ v5 = .int .i64 (p : Nat) /\ n < p /\ p <= 300000 /\ l.length - p <= f /\ ks ++ ej l en f p = ej l en l.length (n + 1) /\ I ks ad /\ ∃ L1, ad.loop o = some L1 /\ L1.st .ready none = L /\ L1.state = .ready /\ L1.dN = none,
  ⟨_, [], l.length, n + 1, rfl, rfl, rfl, rfl, by simp, by omega, by omega, by omega, rfl, I1, L, L8, by cases L; simp_all [eg.st], Gt, Qa⟩, ?_⟩
 clear I1 L8
 rintro m v0 v2 v3 v5 bN ⟨ks, f, p, rfl, rfl, rfl, rfl, rfl, Yj, ZL, hf, iD, I2, L1, nu, et, A7, yX⟩
 obtain ⟨k1, k2, k3⟩ := Ks _ _ I2
 rw [eK k2, dC, bD]
 simp only [bO, ag, aT, aI]
 have stop : ej l en f p = [] -> aj (HD o Kn Ke Kr Kp) (.aL []) bN := fun h => by
  rw [h, jI] at iD
  refine aj.mk ⟨L1, nu, by rw [A7]; simp, ?_⟩
  rw [yX]
  exact fin ks bN o L1 iD I2 nu
 by_cases aH : (p : Int) < en
 · have oK : p < l.length := by omega
   obtain ⟨x, hx⟩ : ∃ x, l[p]? = some x := ⟨l[p], by simp [oK]⟩
   cases f with
   | zero => omega
   | succ f =>
   have Dq : ej l en (f + 1) p = if 0 < x.size then p :: ej l en f (p + x.size.toNat) else [] := by
    simp only [ej, hx, aH, true_and]
   simp only [aH, cV, fC, bT, aC, aU, ck, nJ k3, dC, eP, j6]
   refine yn hv hx fun r => ?_
   simp only [cJ, aC, j6, cS, jn, List.drop, lj, eP, eA, aG, if_true, ag, br]
   refine ⟨fun hs => ?_, fun hs => ?_⟩
   · rw [if_pos hs] at Dq
     simp only [eT, wa]
     refine Y _ _ _ L1 rfl nu et ?_
     refine ⟨L1, nu, A7, ?_⟩
     have I3 := Mr _ _ o L1 { L1 with state := .busy } I2 nu
     have Dr : ks.length < l.length := by
      have := rG l en l.length (n + 1)
      rw [<- iD, Dq] at this
      simp at this; omega
     refine body ks p x _ o { L1 with state := .busy } _ I3 hx aH hs Yj Dr ⟨_, by rw [<- iD, Dq]⟩ eV (fun cC I4 yY uP => ?_) fun cC Xy uP => ?_
     · refine ⟨_, uP, ?_⟩
       have I5 := Mr _ _ o _ { L1 with state := .ready, dN := none } I4 uP
       obtain ⟨j1, j2, j3⟩ := Ks _ _ I5
       simp only [bB, dm, ag, cu, aX, aU, ck]
       rw [eK j3, dC, bD]
       refine FM hv hx fun r => ?_
       simp only [cJ, ag, cS, jn, List.drop, o8, bD, cW]
       refine ⟨bh (by omega) (by omega), _, ?_, ks ++ [p], f, p + x.size.toNat, rfl, rfl, rfl, rfl, ?_, by omega, by omega, by omega, ?_, I5, _, eV, by rw [<- et]; rfl, rfl, rfl⟩
       · omega
       · congr 1; omega
       · rw [<- iD, Dq]; simp
     · refine ⟨_, uP, ?_⟩
       simp only [bB, dm, ag, dJ, bm]
       refine aj.mk ⟨_, eV, by simp, ?_⟩
       exact VM _ o _ (hJ _ o _ _ Xy uP) eV
   · rw [if_neg hs] at Dq
     exact stop Dq
 · simp only [aH, db, show (false == true) = false from rfl, bS, aG, bl, if_false, ag, aX]
   refine stop ?_
   cases f with
   | zero => rfl
   | succ f =>
     simp only [ej]
     split
     · rw [if_neg (fun h => aH h.1)]
     · rfl
end Go.Rip
namespace Go.Rip
open Go.Proofs Go.RowKit
def kP (az U : St) (v : AV) (es : List Int) : Prop := (es = [] /\ v = .aq) \/ ∃ b gC, v = .ms b 0 es.length 1 3 /\ U.box b = some (es.map (.int .i64) ++ gC) /\ az.live b = none
section
variable {az U : St} {R : cm -> St -> Prop} {K' : AV -> St -> Prop} {Kp : AV -> St -> Prop}
theorem MJ {b : Nat} {n a : Int} (hb : U.box b = some [.int .i64 n]) (h : R (.ret (.bool (decide (a <= n)))) U) : ae K 133 [.int .i64 a, .box b 0] U R := by
 refine H2 ?_
 unfold H0
 rw [eK hb, dC, bD]
 simp only [hZ, ag]
 exact aj.mk h
theorem Ul {b : Nat} {L : List AV} {es : List Int} {gC : List AV} (h : U.box b = some L) (hL : L = es.map (.int .i64) ++ gC) {i n : Nat} (hi : i < es.length) (hn : i < n) (hk : K' (.int .i64 es[i]) U) :
 (aJ (some (3, 1)) none (.ms b 0 n 1 3) (.int .i64 (i : Nat))).wp K U (fun v U => (ao (some (false, 1)) v U).wp K U K' Kp) Kp := by
 rw [si]
 refine ⟨⟨by omega, by omega, rfl⟩, ?_⟩
 rw [eK h]
 have : L.drop (0 + (i : Int).toNat * 1) = .int .i64 es[i] :: ((es.map (AV.int .i64)).drop (i + 1) ++ gC) := by
  rw [hL, eF, Nat.mul_one, ck, List.drop_append_of_le_length (by simp; omega), fT (by simpa using hi)]
  simp
 rw [this, bD]
 exact hk
theorem y9 {b bn : Nat} {es : List Int} {gC : List AV} {n : Int} (hb : U.box b = some (es.map (.int .i64) ++ gC)) (hn : U.box bn = some [.int .i64 n]) (hl : es.length <= 100000)
 (h : (∃ k, k < es.length /\ (es.take k).all (fun a => decide (n < a)) = true /\ (∃ hk : k < es.length, es[k] <= n) /\ R (.ret (.int .i64 (k : Nat))) U) \/ (es.all (fun a => decide (n < a)) = true /\ R (.ret (.int .i64 (-1))) U)) :
 ae K 210 [.ms b 0 es.length 1 3, .func (.func 133) [] [.box bn 0]] U R := by
 refine zu ?_
 unfold BW
 simp only [Hb, ag]
 refine ⟨fun m v0 v1 v7 v8 ad => ∃ i : Nat, m = es.length - i /\ i <= es.length /\ v0 = .ms b 0 es.length 1 3 /\ v1 = .func (.func 133) [] [.box bn 0] /\ v7 = .int .i64 es.length /\ v8 = .int .i64 i /\ ad = U /\ (es.take i).all (fun a => decide (n < a)) = true, ⟨_, 0, rfl, by omega, rfl, rfl, rfl, rfl, rfl, by simp⟩, ?_⟩
 rintro m v0 v1 v7 v8 ad ⟨i, rfl, hi, rfl, rfl, rfl, rfl, rfl, bw⟩
 simp only [bO, ag, br]
 have Dj : ∀ (k : Nat) (hk : k < es.length), (es.take i).all (fun a => decide (n < a)) = true -> k < i -> n < es[k] := fun k hk ha AR => by
  rw [dU] at ha
  have : es[k] ∈ es.take i := by
   rw [List.mem_iff_getElem]
   exact ⟨k, by simp; omega, by simp⟩
  simpa using ha _ this
 refine ⟨fun aH => ?_, fun iX => ?_⟩
 · have aH : i < es.length := by omega
   refine Ul hb rfl aH aH ?_
   simp only [eT, show cX K.P 133 = true by kernel_rfl, if_true, gI, iN, jn]
   refine MJ hn ?_
   simp only [bB, br]
   refine ⟨fun hle => ?_, fun tk => ?_⟩
   · rcases h with ⟨k, hk, oH, ⟨_, er⟩, hR⟩ | ⟨hA, _⟩
     · have : k = i := by
        rcases Nat.lt_trichotomy k i with h | h | h
        · have := Dj k hk bw h; omega
        · exact h
        · rw [dU] at oH
          have hm : es[i] ∈ es.take k := by
           rw [List.mem_iff_getElem]
           exact ⟨i, by simp; omega, by simp⟩
          have := oH _ hm
          simp at this; omega
       subst this
       exact aj.mk hR
     · rw [dU] at hA
       have := hA es[i] (List.getElem_mem aH)
       simp at this; omega
   · rw [cW]
     refine ⟨bh (by omega) (by omega), es.length - (i + 1), by omega, i + 1, rfl, by omega, rfl, rfl, rfl, by simp, rfl, ?_⟩
     rw [tP, j4 aH, List.all_append, bw]
     simp; omega
 · have hi : i = es.length := by omega
   subst hi
   rw [tO] at bw
   rcases h with ⟨k, hk, oH, ⟨_, er⟩, hR⟩ | ⟨_, hR⟩
   · rw [dU] at bw
     have := bw es[k] (List.getElem_mem hk)
     simp at this; omega
   · exact aj.mk hR
theorem yQ : ∀ (es : List Int) (n : Int), (∃ k, ∃ hk : k < es.length, (es.take k).all (fun a => decide (n < a)) = true /\ es[k] <= n) \/ es.all (fun a => decide (n < a)) = true
 | [], n => .inr rfl
 | a :: es, n => by
   by_cases ha : n < a
   · rcases yQ es n with ⟨k, hk, h1, h2⟩ | h
     · exact .inl ⟨k + 1, by simp; omega, by simp [ha, h1], by simpa using h2⟩
     · exact .inr (by simp [ha, h])
   · exact .inl ⟨0, by simp, by simp, by simp; omega⟩
theorem Gc {v : AV} {bn : Nat} {es : List Int} {n : Int} (hv : kP az U v es) (hn : U.box bn = some [.int .i64 n]) (hl : es.length <= 100000) (hE : cF az U) (Gv : ∀ b, az.live b = none -> v = .ms b 0 es.length 1 3 -> bn ≠ b)
 (h : ∀ ad v', kP az ad v' (es.filter (n < ·)) -> cF az ad -> (∀ b x, (∀ k, v ≠ .ms b 0 k 1 3) -> U.box b = some x -> ad.box b = some x) -> (∀ b k, v' = .ms b 0 k 1 3 -> v = .ms b 0 es.length 1 3) -> R (.ret v') ad) : ae K 132 [v, .func (.func 133) [] [.box bn 0]] U R := by
 refine HZ ?_
 unfold HY
 rcases hv with ⟨rfl, rfl⟩ | ⟨b, gC, rfl, hb, uQ⟩
 ·
  have VP : ae K 210 [.aq, .func (.func 133) [] [.box bn 0]] U (al (fun v10 U =>
   (aw .eql (BT.mk false false false none false) true v10 (AV.int .i64 (-1))).wp K U (fun v12 U => ay v12 (aj R .aq U) False) (aa R)) (aa R)) := by
   refine zu ?_
   unfold BW
   simp only [len_nil, ag]
   refine ⟨fun m v0 v1 v7 v8 ad => v7 = .int .i64 0 /\ v8 = .int .i64 0 /\ ad = U, ⟨0, rfl, rfl, rfl⟩, ?_⟩
   rintro m v0 v1 v7 v8 ad ⟨rfl, rfl, rfl⟩
   simp only [bO, ag, show decide ((0 : Int) < 0) = false from rfl, aX]
   refine aj.mk ?_
   simp only [bB, bf, ag, cV, bm]
   exact aj.mk (h ad .aq (.inl ⟨rfl, rfl⟩) hE (fun _ _ _ h => h) (fun _ _ e => by cases e))
  refine VP.mono fun r ad hr => ?_
  cases r with
  | panic x => exact hr
  | ret x =>
    simp only [bB] at hr ⊢
    refine aA.wp_mono (fun v U hv => ?_) _ hr
    cases v <;> simp only [ay] at hv ⊢
    exact ⟨hv.1, fun e => (hv.2 e).elim⟩
 · have Qd : bn ≠ b := Gv b uQ rfl
   rcases yQ es n with ⟨k, hk, oH, er⟩ | bw
   · refine y9 hb hn hl (.inl ⟨k, hk, oH, ⟨hk, er⟩, ?_⟩)
     have X8 : ¬ ((k : Nat) : Int) = -1 := by omega
     simp only [bB, bf, ag, X8, db, aX, cW]
     refine ⟨bh (by omega) (by omega), ?_⟩
     have Ml : (es.take (k + 1)).filter (n < ·) = es.take k := by
      rw [tP, j4 hk, List.filter_append]
      have h1 : (es.take k).filter (n < ·) = es.take k := by
       rw [List.filter_eq_self]
       intro a ha
       rw [dU] at oH
       exact oH a ha
      rw [h1]
      have : ¬ n < es[k] := by omega
      simp [this]
     refine ⟨fun m v0 v1 v5 v6 ad => ∃ (i j : Nat) (arr : List AV), m = es.length - j /\ v0 = .ms b 0 es.length 1 3 /\ v1 = .func (.func 133) [] [.box bn 0] /\ v5 = .int .i64 (i : Nat) /\ v6 = .int .i64 (j : Nat) /\ j <= es.length /\ i < j /\ ad.box b = some arr /\ arr.take i = ((es.take j).filter (n < ·)).map (.int .i64) /\ i = ((es.take j).filter (n < ·)).length /\ arr.drop j = (es.drop j).map (.int .i64) ++ gC /\ arr.length = es.length + gC.length /\ (∀ c, c ≠ b -> ad.live c = U.live c),
      ⟨_, k, k + 1, es.map (.int .i64) ++ gC, rfl, rfl, rfl, rfl, by simp, by omega, by omega, hb, ?_, ?_, ?_, by simp, fun _ _ => rfl⟩, ?_⟩
     · rw [Ml, List.take_append_of_le_length (by simp; omega), <- List.map_take]
     · rw [Ml]; simp; omega
     · rw [List.drop_append_of_le_length (by simp; omega), <- List.map_drop]
     · rintro m v0 v1 v5 v6 ad ⟨i, j, arr, rfl, rfl, rfl, rfl, rfl, hj, eJ, dz, Mg, Qc, UG, XC, wK⟩
       simp only [Hb, ag, bO, br]
       refine ⟨fun aH => ?_, fun iX => ?_⟩
       · have aH : j < es.length := by omega
         intro jj uT
         have U1 : ad.box bn = some [.int .i64 n] := by rw [eU (wK bn Qd)]; exact hn
         rw [si]
         refine ⟨⟨by omega, by omega, rfl⟩, ?_⟩
         rw [eK dz]
         obtain ⟨rr, hd⟩ : ∃ rr, arr.drop (0 + (j : Int).toNat * 1) = .int .i64 es[j] :: rr := by
          rw [eF, Nat.mul_one, ck, UG, fT aH, de]
          exact ⟨_, rfl⟩
         rw [hd, bD]
         simp only [eT, show cX K.P 133 = true by kernel_rfl, if_true, gI, iN, jn]
         refine MJ U1 ?_
         have pr : es.take (j + 1) = es.take j ++ [es[j]] := by rw [tP, j4 aH]; rfl
         have uS : arr.drop (j + 1) = (es.drop (j + 1)).map (.int .i64) ++ gC := by
          rw [<- List.drop_drop, UG, fT aH, de]; rfl
         simp only [bB, dm, ag]
         by_cases hle : es[j] <= n
         · simp only [hle, cV, cu, aX]
           refine uT _ _ _ _ _ ?_
           simp only [cW]
           refine ⟨bh (by omega) (by omega), es.length - (j + 1), by omega, i, j + 1, arr, rfl, rfl, rfl, rfl, by simp, by omega, by omega, dz, ?_, ?_, uS, XC, wK⟩
           · rw [pr, List.filter_append, Mg]
             have : ¬ n < es[j] := by omega
             simp [this]
           · rw [pr, List.filter_append]
             have : ¬ n < es[j] := by omega
             simp only [List.filter_cons, this, db, bl, if_false, List.filter_nil, jI]
             exact Qc
         · simp only [hle, db, dJ, bm]
           rw [si]
           refine ⟨⟨by omega, by omega, rfl⟩, ?_⟩
           rw [dh dz]
           refine ⟨⟨rfl, rfl, by simp; omega⟩, ?_⟩
           rw [cW]
           refine ⟨bh (by omega) (by omega), ?_⟩
           refine uT _ _ _ _ _ ?_
           simp only [cW]
           have Dw : aB arr (0 + (i : Int).toNat * 1) (au (.int .i64 es[j])) = arr.take i ++ [.int .i64 es[j]] ++ arr.drop (i + 1) := by
            simp [aB]
           have AU : (arr.take i).length = i := by simp; omega
           refine ⟨bh (by omega) (by omega), es.length - (j + 1), by omega, i + 1, j + 1, _, rfl, rfl, rfl, by simp, by simp, by omega, by omega, aZ, ?_, ?_, ?_, ?_, fun c hc => by rw [dM, if_neg hc]; exact wK c hc⟩
           · rw [Dw, List.take_append_of_le_length (by simp; omega), vN (by simp; omega), Mg, pr, List.filter_append]
             have : n < es[j] := by omega
             simp [this]
           · rw [pr, List.filter_append]
             have : n < es[j] := by omega
             simp only [List.filter_cons, this, cV, if_true, List.filter_nil, eG, mB, tQ]
             omega
           · rw [Dw, <- uS]
             rw [List.drop_append, List.drop_eq_nil_of_le (by simp; omega), iN, List.drop_drop]
             congr 1
             simp
             omega
           · rw [Dw]; simp; omega
       · have X3 : j = es.length := by omega
         subst X3
         rw [tO] at Mg Qc
         simp only [fi, cI, wp_cond, ag]
         refine ⟨⟨by omega, by omega, by omega, by omega, trivial⟩, ?_⟩
         simp only [wm, dz, wp_cond, hC]
         refine ⟨⟨trivial, by simp; omega⟩, ⟨by omega, by omega, by omega, by simp, trivial⟩, ?_⟩
         refine aj.mk (h _ _ (.inr ⟨b, (aB arr (0 + (i : Int).toNat * 1) (bp ((es.length : Int).toNat - (i : Int).toNat) [.int .i64 0])).drop i, ?_, ?_, uQ⟩) ?_ ?_ ?_)
         · simp [Qc]
         · rw [aZ]
           congr 1
           have hz : (bp (es.length - i) [AV.int .i64 0]).length = es.length - i := by simp [gP]
           simp only [eF, Nat.mul_one, ck]
           conv => lhs; rw [<- List.take_append_drop i (aB arr i _)]
           congr 1
           simp only [aB, oY]
           rw [List.take_append_of_le_length (by simp; omega), vN (by simp; omega)]
           exact Mg
         · refine cF.set (fun c x e => ?_) uQ
           by_cases hc : c = b
           · subst hc; rw [uQ] at e; cases e
           · rw [wK c hc]; exact hE c x e
         · intro c x hc hx
           have UJ : c ≠ b := fun e => hc es.length (by rw [e])
           rw [aP UJ, eU (wK c UJ)]; exact hx
         · intro c k e
           simp only [AV.ms.injEq] at e
           rw [e.1]
   · refine y9 hb hn hl (.inr ⟨bw, ?_⟩)
     simp only [bB, bf, ag, cV, bm]
     have hf : es.filter (n < ·) = es := by
      rw [List.filter_eq_self]
      intro a ha
      rw [dU] at bw
      exact bw a ha
     exact aj.mk (h U _ (by rw [hf]; exact .inr ⟨b, gC, rfl, hb, uQ⟩) hE (fun _ _ _ h => h) (fun b' k e => by cases e; rfl))
end
end Go.Rip
namespace Go.Rip
open Go.Proofs Go.RowKit
section
variable {az U : St} {R : cm -> St -> Prop} {K' : AV -> St -> Prop} {Kp : AV -> St -> Prop} {v : AV} {es : List Int}
theorem J9 (h : kP az U v es) : bZ (some false) v = .val (.int .i64 es.length) := by
 rcases h with ⟨rfl, rfl⟩ | ⟨b, gC, rfl, _, _⟩ <;> rfl
theorem J8 {bx : Nat} {a : Int} (hv : kP az U v es) (hy : U.box bx = some [.int .i64 a]) (E : cF az U) (hl : es.length <= 100000) (h : ∀ ad v', kP az ad v' (es ++ [a]) -> cF az ad -> K' v' ad) :
 (eN (some (3, 1)) true v (.ms bx 0 1 1 3) U).wp K U K' Kp := by
 have ED : nL U (.ms bx 0 1 1 3) = some (1, [.int .i64 a]) := by simp [nL, hy]
 rcases hv with ⟨rfl, rfl⟩ | ⟨b, gC, rfl, hb, uQ⟩
 · simp only [eN, ED, wp_cond]
   refine ⟨rfl, by omega, fun b hf => ?_⟩
   exact h _ _ (.inr ⟨b, [], rfl, by rw [show U.nE none = U from rfl]; exact aN, E.fresh hf.1⟩) (E.new hf)
 · refine Ss hb ED ⟨rfl, by simp, by omega⟩ fun b' hf => ?_
   refine h _ _ (.inr ⟨b', [], by simp, ?_, ?_⟩) ((E.del uQ).new hf)
   · rw [aN]; simp
   · have hd := hf.1
     by_cases e : b' = b
     · rw [e]; exact uQ
     · rw [lD, if_neg e] at hd; exact E.fresh hd
end
theorem Em {v : AV} {l : List Nd} (hv : eS v l.length (cR l)) (hc : closed v = true) (hl : l.length <= 100000) (h0 : l ≠ []) (hs : ∀ x ∈ l, 0 <= x.size /\ x.size <= 100000) (oM : jo l <= l.length) : Pure K 69 [.agg [v]] (.bool (oD l)) := by
 refine Pure.of (by simp [bH, closed, hc]) rfl (fun U => rfl) fun R hR => ?_
 refine Lo ?_
 unfold M4
 rw [eH rfl]
 intro b1 fq
 have m1 : ((bj ⟨.e, 0⟩).new b1 (.box (au (.agg [v])))).box b1 = some [v] := aN
 generalize (bj _).new b1 _ = az at *
 clear fq
 simp only [aU, ag, ck]
 rw [eK m1, dC, bD, hv.len, ag]
 refine ⟨fun m v1 v2 v3 v8 v9 v10 ad => ∃ (i : Nat) (es : List Int), m = l.length - i /\ v1 = .box b1 0 /\ v2 = .bool false /\ v8 = v /\ v9 = .int .i64 l.length /\ v10 = .int .i64 (i : Nat) /\ i <= l.length /\ kP az ad v3 es /\ es.length <= i /\ gh (l.drop i) i es = gh l 0 [] /\ cF az ad,
  ⟨_, 0, [], rfl, rfl, rfl, rfl, rfl, rfl, by omega, .inl ⟨rfl, rfl⟩, by simp, rfl, cF.refl _⟩, ?_⟩
 rintro m v1 v2 v3 v8 v9 v10 bM ⟨i, es, rfl, rfl, rfl, rfl, rfl, rfl, hi, ti, Qm, hg, E1⟩
 simp only [bO, ag, br]
 refine ⟨fun aH => ?_, fun iX => ?_⟩
 · have aH : i < l.length := by omega
   obtain ⟨x, hx⟩ : ∃ x, l[i]? = some x := ⟨l[i], by simp [aH]⟩
   have wF : l.drop i = x :: l.drop (i + 1) := by
    rw [fT aH]
    have := (cT.1 hx).2
    rw [this]
   rw [wF, gh] at hg
   refine FM hv hx fun r => ?_
   rw [yF]
   refine ⟨by simp [cS], ?_⟩
   have AJ : (cS x ++ r).take 6 = cS x := by simp [cS]
   rw [AJ, dv]
   intro b4 nv
   rw [dv]
   intro b5 Gu
   have m4 : (bM.new b4 (.box [.int .i64 0])).box b4 = some [.int .i64 0] := aN
   have Vr := Gu.ca m4
   have f4 := E1.fresh nv.1
   have E2 := E1.new nv (x := .box [.int .i64 0])
   have Kw : kP az (bM.new b4 (.box [.int .i64 0])) v3 es /\ (∀ b, v3 = .ms b 0 es.length 1 3 -> b4 ≠ b) := by
    rcases ti with h | ⟨b, gC, rfl, h2, h3⟩
    · exact ⟨.inl h, fun b e => by rw [h.2] at e; cases e⟩
    · have := nv.ca h2
      exact ⟨.inr ⟨b, gC, rfl, by rw [ma this]; exact h2, h3⟩, fun b' e => by cases e; exact this.symm⟩
   obtain ⟨Kw, KA⟩ := Kw
   clear ti
   generalize bM.new b4 (.box [.int .i64 0]) = bN at *
   have m5 : (bN.new b5 (.box [AV.int .u8 0, AV.str [], AV.int .i64 0, AV.int .i64 0, AV.int .i64 0, AV.int .i64 0])).box b5 = some [AV.int .u8 0, AV.str [], AV.int .i64 0, AV.int .i64 0, AV.int .i64 0, AV.int .i64 0] := aN
   have f5 := E2.fresh Gu.1
   have E3 := E2.new Gu (x := .box [AV.int .u8 0, AV.str [], AV.int .i64 0, AV.int .i64 0, AV.int .i64 0, AV.int .i64 0])
   have YN := (bz Gu (x := .box [AV.int .u8 0, AV.str [], AV.int .i64 0, AV.int .i64 0, AV.int .i64 0, AV.int .i64 0])).bA m4
   have Kx : kP az (bN.new b5 (.box [AV.int .u8 0, AV.str [], AV.int .i64 0, AV.int .i64 0, AV.int .i64 0, AV.int .i64 0])) v3 es /\ (∀ b, v3 = .ms b 0 es.length 1 3 -> b5 ≠ b) := by
    rcases Kw with h | ⟨b, gC, rfl, h2, h3⟩
    · exact ⟨.inl h, fun b e => by rw [h.2] at e; cases e⟩
    · have := Gu.ca h2
      exact ⟨.inr ⟨b, gC, rfl, by rw [ma this]; exact h2, h3⟩, fun b' e => by cases e; exact this.symm⟩
   obtain ⟨Kx, QL⟩ := Kx
   generalize bN.new b5 (.box [AV.int .u8 0, AV.str [], AV.int .i64 0, AV.int .i64 0, AV.int .i64 0, AV.int .i64 0]) = cC at *
   rw [dh YN]
   refine ⟨⟨rfl, rfl, by simp⟩, ?_⟩
   rw [dh (show (cC.set b4 _).box b5 = some _ by rw [aP Vr.symm]; exact m5)]
   refine ⟨⟨rfl, rfl, by simp [cS]⟩, ?_⟩
   have E4 := (E3.set f4 (x := .box (aB [.int .i64 0] 0 (au (.int .i64 (i : Nat)))))).set f5 (x := .box (aB [AV.int .u8 0, AV.str [], AV.int .i64 0, AV.int .i64 0, AV.int .i64 0, AV.int .i64 0] 0 (au (.agg (cS x)))))
   have g4 : ((cC.set b4 (.box (aB [.int .i64 0] 0 (au (.int .i64 (i : Nat)))))).set b5 (.box (aB [AV.int .u8 0, AV.str [], AV.int .i64 0, AV.int .i64 0, AV.int .i64 0, AV.int .i64 0] 0 (au (.agg (cS x)))))).box b4 = some [.int .i64 (i : Nat)] := by
    rw [aP Vr, aZ]; rfl
   have g5 : ((cC.set b4 (.box (aB [.int .i64 0] 0 (au (.int .i64 (i : Nat)))))).set b5 (.box (aB [AV.int .u8 0, AV.str [], AV.int .i64 0, AV.int .i64 0, AV.int .i64 0, AV.int .i64 0] 0 (au (.agg (cS x)))))).box b5 = some (cS x) := by
    rw [aZ]; rfl
   have Qn : kP az ((cC.set b4 (.box (aB [.int .i64 0] 0 (au (.int .i64 (i : Nat)))))).set b5 (.box (aB [AV.int .u8 0, AV.str [], AV.int .i64 0, AV.int .i64 0, AV.int .i64 0, AV.int .i64 0] 0 (au (.agg (cS x)))))) v3 es := by
    rcases Kx with h | ⟨b, gC, rfl, h2, h3⟩
    · exact .inl h
    · exact .inr ⟨b, gC, rfl, by rw [aP (QL b rfl).symm, aP (KA b rfl).symm]; exact h2, h3⟩
   generalize (cC.set b4 (.box (aB [.int .i64 0] 0 (au (.int .i64 (i : Nat)))))).set b5 (.box (aB [AV.int .u8 0, AV.str [], AV.int .i64 0, AV.int .i64 0, AV.int .i64 0, AV.int .i64 0] 0 (au (.agg (cS x))))) = cU at *
   refine Gc Qn g4 (by omega) E4 (fun b _ e => KA b e) fun dw v' Qo E5 X7 _ => ?_
   have jL : ∀ b y, b4 = b \/ b5 = b -> cU.box b = some y -> dw.box b = some y := fun b y hb hy => by
    refine X7 b y (fun k e => ?_) hy
    rcases Qn with h | ⟨b', gC, rfl, h2, h3⟩
    · rw [h.2] at e; cases e
    · simp only [AV.ms.injEq] at e
      rcases hb with rfl | rfl
      · exact KA b' rfl e.1.symm
      · exact QL b' rfl e.1.symm
   have Uw := jL b4 _ (.inl rfl) g4
   have Ux := jL b5 _ (.inr rfl) g5
   simp only [bB, J9 Qo, ag, eA, br]
   have AN : (es.filter ((i : Int) < ·)).length <= es.length := List.length_filter_le _ _
   refine ⟨fun tk => ?_, fun hle => ?_⟩
   · rw [if_pos (by omega)] at hg
     refine aj.mk ?_
     have : oD l = true := by simp [oD, <- hg]
     rw [this] at hR
     exact hR _
   · rw [if_neg (by omega)] at hg
     have MD := hs x (fw hx)
     rw [eK Uw, dC, bD]
     simp only [aU, ag, ck]
     rw [eK Ux]
     simp only [cS, List.drop, bD, cW]
     refine ⟨bh (by omega) (by omega), ?_⟩
     rw [JL]
     refine ⟨by omega, ?_⟩
     rw [ee (o := 0) (s := 1) rfl]
     refine ⟨⟨rfl, rfl, by simp [bp]⟩, ?_⟩
     rw [OF]
     refine ⟨rfl, fun bx Dk => ?_⟩
     have VX : kP az (dw.new bx (.box (aB (bp 1 [AV.int .i64 0]) 0 (au (.int .i64 ((i : Int) + x.size)))))) v' (es.filter ((i : Int) < ·)) := by
      rcases Qo with h | ⟨b', gC, rfl, h2, h3⟩
      · exact .inl h
      · exact .inr ⟨b', gC, rfl, by rw [ma (Dk.ca h2)]; exact h2, h3⟩
     refine J8 VX (by rw [aN]; rfl) (E5.new Dk) (by omega) fun l8 v7 VY E7 => ?_
     refine ⟨bh (by omega) (by omega), l.length - (i + 1), by omega, i + 1, _, rfl, rfl, rfl, rfl, rfl, by simp, by omega, VY, by simp; omega, hg, E7⟩
 · have hi : i = l.length := by omega
   subst hi
   rw [List.drop_length] at hg
   have Qv : gh l 0 [] = false := hg.symm
   have tk : oD l = decide (24 < (ej l (jo l) l.length 1).length) := by simp [oD, Qv]
   rw [tk] at hR
   rw [dv]
   intro b6 pj
   have m6 : (bM.new b6 (.box [.int .i64 0])).box b6 = some [.int .i64 0] := aN
   have MK := (E1.new pj (x := .box [.int .i64 0])).bA m1
   have YQ := pj.ca (E1.bA m1)
   generalize bM.new b6 (.box [.int .i64 0]) = bN at *
   rw [dh m6]
   refine ⟨⟨rfl, rfl, by simp⟩, ?_⟩
   have ML : (bN.set b6 (.box (aB [.int .i64 0] 0 (au (.int .i64 0))))).box b6 = some [.int .i64 (([] : List Nat).length : Nat)] := by rw [aZ]; rfl
   have Wv : (bN.set b6 (.box (aB [.int .i64 0] 0 (au (.int .i64 0))))).box b1 = some [v8] := by rw [aP YQ]; exact MK
   generalize bN.set b6 (.box (aB [.int .i64 0] 0 (au (.int .i64 0)))) = cC at *
   rw [pO Wv]
   refine ⟨by simp, ?_⟩
   refine pc [v8] (by simp [xQ, hv.cr, aB]) ?_
   cases l with
   | nil => exact absurd rfl h0
   | cons x0 l =>
   have hx0 := hs x0 (by simp)
   refine vF (n := 0) (x := x0) hv rfl (bh (by simp; omega) (by simp; omega)) fun bn be bt cU d1 d2 d3 f1 f2 f3 k1 k2 k3 e4 => ?_
   have YO := e4.bA ML
   have en : (((0 : Nat) : Int) + x0.size) = jo (x0 :: l) := by simp [jo]
   rw [en] at k2
   have nn : bn ≠ b6 := fun e => by rw [e] at f1; exact dy ML f1
   have ne : be ≠ b6 := fun e => by rw [e] at f2; exact dy ML f2
   have nt : bt ≠ b6 := fun e => by rw [e] at f3; exact dy ML f3
   refine rZ (fun ks U => U.box b6 = some [.int .i64 (ks.length : Nat)] /\ U.box bn = some [.int .i64 ((0 : Nat) : Int)] /\ U.box be = some [.int .i64 (jo (x0 :: l))] /\ U.box bt = some [v8] /\ True) (fun _ => False) hv (by simp) (by omega) oM
    (fun ks U h => h.2.imp id fun h => h.imp id fun h => h.1) (fun ks U o L L' h hL => ?_) (fun ks U o L h ho => ?_) (fun _ _ _ _ h => h.elim) (fun ks jY x dw o L1 q hI hx aH lB U2 Dr _ hL hn hr => ?_) (fun ks dw o L iD hI hL => ?_) (fun _ _ _ h => h.elim) ⟨YO, k1, k2, k3, trivial⟩
   · exact ⟨by rw [aP (bE h.1 hL)]; exact h.1, by rw [aP (bE h.2.1 hL)]; exact h.2.1, by rw [aP (bE h.2.2.1 hL)]; exact h.2.2.1, by rw [aP (bE h.2.2.2.1 hL)]; exact h.2.2.2.1, h.2.2.2.2⟩
   · have e := bz ho (x := .loop L)
     exact ⟨e.bA h.1, e.bA h.2.1, e.bA h.2.2.1, e.bA h.2.2.2.1, h.2.2.2.2⟩
   · obtain ⟨i1, i2, i3, i4, i5⟩ := hI
     rw [eK i1, dC, bD, cW]
     refine ⟨bh (by omega) (by omega), ?_⟩
     rw [dh i1]
     refine ⟨⟨rfl, rfl, by simp⟩, ?_⟩
     refine hn _ ⟨by rw [aZ]; simp [aB], by rw [aP nn]; exact i2, by rw [aP ne]; exact i3, by rw [aP nt]; exact i4, trivial⟩ (hs x (fw hx)).2 (by rw [eE]; exact hL; rw [dM, if_neg (bE i1 hL).symm])
   · obtain ⟨i1, i2, i3, i4, i5⟩ := hI
     have YK : (dw.del o).box b6 = some [.int .i64 (ks.length : Nat)] := by rw [gi (bE i1 hL)]; exact i1
     show (ao (some (false, 1)) (.box b6 0) (dw.del o)).wp K (dw.del o) _ _
     rw [eK YK, dC, bD]
     simp only [eA, ag]
     subst iD
     refine aj.mk ?_
     have := hR (dw.del o)
     have e : decide ((24 : Int) < ((ej (x0 :: l) (jo (x0 :: l)) (x0 :: l).length (0 + 1)).length : Nat)) = decide (24 < (ej (x0 :: l) (jo (x0 :: l)) (x0 :: l).length 1).length) := by
      rw [mC]; simp only [dp, ck]; omega
     rw [e]; exact this
end Go.Rip
namespace Go.Rip
open Go.Proofs Go.RowKit
theorem HH {U : St} {a b : Nat} {l : List AV} (h : b ≠ a) : (U.bC a l).live b = U.live b := by
 simp [St.bC, St.set, h]
theorem gb.bC {r : Nat} {U ad : St} {b : Nat} {l : List AV} (h : gb r U ad) (n : U.live b = none) : gb r U (ad.bC b l) := fun c y m e => by
 by_cases hc : c = b
 · subst hc; rw [n] at e; cases e
 · rw [HH hc]; exact h c y m e
theorem dq.scalar {a : AV} {ns : List Nd} (hk : dq false [a] ns) : a.scalar = true := by
 generalize hb : false = b at hk
 generalize hl : [a] = la at hk
 cases hk with
 | mk _ _ => cases hl; rfl
 | nil => cases hl
 | cons _ _ => cases hb
section
variable {X : Rx} {r i : Nat} {U : St} {R : cm -> St -> Prop}
end
def vH (l : List Nd) : AV := if l = [] then .aq else .vec l.length .gq (cR l)
end Go.Rip
