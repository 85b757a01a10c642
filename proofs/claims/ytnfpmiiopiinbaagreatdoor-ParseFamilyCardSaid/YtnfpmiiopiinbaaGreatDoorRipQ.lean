/- Lemmas for the proof: no conditions. -/
import Derived.Test.YtnfpmiiopiinbaaGreatDoorRipZz
import Derived.Test.YtnfpmiiopiinbaaGreatDoorRipO
import Derived.Test.YtnfpmiiopiinbaaGreatDoorRipP
import Derived.Test.YtnfpmiiopiinbaaGreatDoorRipI
import Derived.Test.YtnfpmiiopiinbaaGreatDoorRipK
set_option linter.unusedVariables false
set_option linter.unusedSimpArgs false
set_option linter.loopingSimpArgs false
namespace Go.Rip
open Go.Proofs Go.RowKit
def cM (x : Nd) : List AV := [.int .u8 x.kind, .str x.text, .int .i64 x.n, .int .i64 x.m, .int .i64 x.at_, .int .i64 x.size]
def cF (l : List Nd) : List AV := l.flatMap cM
theorem mI (L : List Nd) : (cF L).length = 6 * L.length := by
 induction L with
 | nil => rfl
 | cons t L ih =>
   have : (cF (t :: L)).length = 6 + (cF L).length := by simp [cF, cM]; omega
   rw [this, ih, jy]; omega
theorem Br (L : List Nd) (i : Nat) : (cF L).drop (i * 6) = cF (L.drop i) := by
 induction L generalizing i with
 | nil => simp [cF]
 | cons t L ih =>
   cases i with
   | zero => simp
   | succ i =>
     rw [Nat.add_mul, show i * 6 + 1 * 6 = 6 + i * 6 by omega, <- List.drop_drop, List.drop_succ_cons, <- ih]
     rfl
theorem wx {L : List Nd} {i : Nat} {t : Nd} (h : L[i]? = some t) : ∃ r, (cF L).drop (i * 6) = cM t ++ r := by
 rw [Br, gp (dy.1 h).1]
 refine ⟨cF (L.drop (i + 1)), ?_⟩
 have := (dy.1 h).2
 simp [cF, this]
section
variable {C : cr} {U : St} {K' : AV -> St -> Prop} {Kp : AV -> St -> Prop} {e sz n b m : Nat} {L l2 z : List AV} {y : AV}
theorem BE {ps : List (Nat × AV)} : (aM (some (e, sz)) (some z) n true ps).wp C U K' Kp = (n * sz <= 16777216 /\ (eO (fun i => some (i * sz, sz)) ps (bN n z) fun cs => .cond (cs.length = n * sz) (.lT n sz e none cs)).wp C U K' Kp) := by
 simp only [aM, if_true]; rfl
theorem F9 {pl : Nat -> Option (Nat × Nat)} {k : Nat} : (eO pl [] L fun cs => .cond (cs.length = k) (.lT n sz e none cs)).wp C U K' Kp = (L.length = k /\ ∀ b, U.cN b -> K' (.ms b 0 n sz e) (U.new b (.box L))) := rfl
theorem MM {mu : Bool} (hb : U.box b = some L) (hy : pn U y = some (m, l2)) (h : l2.length = m * sz /\ n * sz <= L.length /\ n + m <= 4294967296) (hk : ∀ b', (U.del b).cN b' -> K' (.ms b' 0 (n + m) sz e) ((U.del b).new b' (.box (L.take (n * sz) ++ l2)))) : (eJ (some (e, sz)) mu (.ms b 0 n sz e) y U).wp C U K' Kp := by
 simp only [eJ, hy, hb, wp_cond]
 exact ⟨h.1, ⟨trivial, trivial, trivial, h.2.1, h.2.2⟩, hk⟩
end
theorem ek.split {ks : List AV} {l : List Nd} {a : AV} {i : Nat} (h : ek true (ks.drop i) l) (ha : ks[i]? = some a) : ∃ l1 l2, l = l1 ++ l2 /\ ek false [a] l1 /\ ek true (ks.drop (i + 1)) l2 := by
 obtain ⟨aJ, rfl⟩ := dy.1 ha
 rw [gp aJ] at h
 generalize hb : true = b at h
 generalize hl : ks[i] :: ks.drop (i + 1) = la at h
 cases h with
 | mk _ _ => cases hb
 | nil => cases hl
 | cons h1 h2 => cases hl; exact ⟨_, _, rfl, h1, h2⟩
theorem ek.le : ∀ {ks : List AV} {l : List Nd}, ek true ks l -> ks.length <= l.length
 | [], _, _ => by simp
 | a :: ks, l, h => by
   obtain ⟨l1, l2, rfl, h1, h2⟩ := ek.split (ks := a :: ks) (a := a) (i := 0) h rfl
   obtain ⟨x, r, e, _⟩ := h1.size
   have := ek.le (ks := ks) h2
   rw [e]; simp; omega
end Go.Rip
namespace Go.Rip
open Go.Proofs Go.RowKit
theorem dX.YD {v : AV} {l : List Nd} (h : dX v l.length (cF l)) {i : Nat} {x : Nd} (hx : l[i]? = some x) {e : Nat} : ∃ r, aF (some (e, 6)) none v (.int .i64 (i : Int)) = .cond (0 <= (i : Int) /\ (i : Int) < l.length) (.val (.cj (cM x ++ r))) := by
 obtain ⟨c, rfl, k9⟩ := h.at (sz := 6) (e := e) (dy.1 hx).1
 obtain ⟨r, hr⟩ := wx hx
 exact ⟨r, by rw [k9, hr]⟩
section
variable {C : cr} {U : St} {K' : AV -> St -> Prop} {Kp : AV -> St -> Prop} {k : AV -> Prop} {v : AV} {l : List Nd} {i e : Nat} {x : Nd}
theorem HI (h : dX v l.length (cF l)) (hx : l[i]? = some x) (hk : ∀ r, K' (.cj (cM x ++ r)) U) : (aF (some (e, 6)) none v (.int .i64 (i : Int))).wp C U K' Kp := by
 obtain ⟨r, hr⟩ := h.YD hx (e := e)
 rw [hr]
 have := (dy.1 hx).1
 exact ⟨by omega, hk r⟩
theorem vK (h : dX v l.length (cF l)) (hx : l[i]? = some x) (hk : ∀ r, k (.cj (cM x ++ r))) : az C (aF (some (e, 6)) none v (.int .i64 (i : Int))) k := by
 obtain ⟨r, hr⟩ := h.YD hx (e := e)
 rw [hr]
 have := (dy.1 hx).1
 exact ⟨by omega, hk r⟩
end
theorem dX.cS {v : AV} {n : Nat} {cs : List AV} (h : dX v n cs) : v.cS = true /\ aA v = [v] := by
 rcases h with ⟨rfl, rfl, rfl⟩ | ⟨c, rfl⟩ <;> exact ⟨rfl, rfl⟩
theorem xS {U : St} {R : cB -> St -> Prop} {v : AV} {l : List Nd} {n : Nat} {x : Nd} (hv : dX v l.length (cF l)) (hx : l[n]? = some x) (h64 : uu ((n : Int) + x.size))
 (h : ∀ bn be bt ae, bn ≠ be -> bn ≠ bt -> be ≠ bt -> U.live bn = none -> U.live be = none -> U.live bt = none -> ae.box bn = some [.int .i64 (n : Nat)] -> ae.box be = some [.int .i64 ((n : Int) + x.size)] -> ae.box bt = some [v] -> cH U ae -> R (.ret (.func (.func 155) [] [.box bn 0, .box be 0, .box bt 0])) ae) : af K 81 [.agg [v], .int .i64 (n : Nat)] U R := by
 refine OI ?_
 unfold QJ
 rw [dO rfl]
 intro bt YV
 rw [dO rfl]
 intro bn Ip
 have mt : (U.new bt (.box (aA (.agg [v])))).box bt = some [v] := aN
 have e1 := bH YV (x := .box (aA (.agg [v])))
 have fr1 : U.live bt = none := YV.1
 generalize U.new bt (.box (aA (.agg [v]))) = bT at *
 have e2 := bH Ip (x := .box (aA (.int .i64 (n : Nat))))
 have mn : (bT.new bn (.box (aA (.int .i64 (n : Nat))))).box bn = some [.int .i64 (n : Nat)] := aN
 have ntn := Ip.cD mt
 have fr2 : U.live bn = none := e1.fresh Ip.1
 generalize bT.new bn (.box (aA (.int .i64 (n : Nat)))) = bR at *
 have Vu := e2.bL mt
 simp only [lD mn, ej, eQ, aV, au, cq, lD Vu]
 refine vK hv hx fun r => ?_
 simp only [cQ, au, cM, jb, List.drop, kJ, eQ, tU]
 refine ⟨h64, ?_⟩
 rw [dQ]
 intro be sA
 have e3 := bH sA (x := .box [.int .i64 0])
 have me : (bR.new be (.box [.int .i64 0])).box be = some [.int .i64 0] := aN
 have Vz := sA.cD mn
 have VD := sA.cD Vu
 have YG : U.live be = none := (e1.trans e2).fresh sA.1
 refine ⟨?_, ?_⟩
 · intro b hb
   simp only [cT, jc, ja, eA, fH, List.not_mem_nil, or_false] at hb
   have : b = bn \/ b = bt := by
    rcases hb with h | h | h <;> simp_all
   rw [lA]
   rcases this with rfl | rfl
   · rw [if_neg Vz]
   · rw [if_neg VD]
 · rw [dD me]
   refine ⟨⟨rfl, rfl, by simp⟩, aj.mk (h bn be bt _ Vz ntn.symm VD.symm fr2 YG fr1 ?_ ?_ ?_ ((e1.trans (e2.trans e3)).set YG))⟩
   · rw [aY Vz]; exact e3.bL mn
   · rw [bo]; rfl
   · rw [aY VD]; exact e3.bL Vu
theorem tG (l : List Nd) (en : Int) : ∀ (f p : Nat), (ff l en f p).length <= f
 | 0, _ => by simp [ff]
 | f + 1, p => by
   simp only [ff]
   split
   · split
     · have := tG l en f (p + (Nd.size ‹_›).toNat)
       simp; omega
     · simp
   · simp
theorem tZ {v : AV} {l : List Nd} {n : Nat} {en : Int} {bn be bt : Nat} {U : St} {B : AV -> Qr -> St -> Prop} {Kn : St -> Prop} {Ke : Nat -> St -> Prop} {Kr : St -> Prop} {Kp : AV -> St -> Prop} (I : List Nat -> St -> Prop) (J : St -> Prop)
 (hv : dX v l.length (cF l)) (hn : n < l.length) (hlen : l.length <= 100000) (PC : en <= l.length)
 (Nz : ∀ ks U, I ks U -> U.box bn = some [.int .i64 (n : Nat)] /\ U.box be = some [.int .i64 en] /\ U.box bt = some [v])
 (PK : ∀ ks U o L L', I ks U -> U.loop o = some L -> I ks (U.set o (.loop L')))
 (mX : ∀ ks U o L, I ks U -> U.cN o -> I ks (U.new o (.loop L)))
 (hJ : ∀ U o L L', J U -> U.loop o = some L -> J (U.set o (.loop L')))
 (body : ∀ (ks : List Nat) (fO : Nat) (x : Nd) (bT : St) (o : Nat) (L1 : eZ) (q : Qr), I ks bT -> l[fO]? = some x -> (fO : Int) < en -> 0 < x.size -> n < fO -> ks.length < l.length -> (∃ r, ff l en l.length (n + 1) = ks ++ fO :: r) -> bT.loop o = some L1 ->
   (∀ bR, I (ks ++ [fO]) bR -> x.size <= 100000 -> bR.loop o = some L1 -> q.n bR) -> (∀ bR, J bR -> bR.loop o = some L1 -> q.r bR) -> B (.int .i64 (fO : Nat)) q bT)
 (fin : ∀ ks bT o L, ks = ff l en l.length (n + 1) -> I ks bT -> bT.loop o = some L -> Kn (bT.del o))
 (Z4 : ∀ bT o L, J bT -> bT.loop o = some L -> Kr (bT.del o))
 (h0 : I [] U) : qG K 1 (.func (.func 155) [] [.box bn 0, .box be 0, .box bt 0]) U (fun v q U => q.Du (fun U => B v q U) U) Kn Ke Kr Kp := by
 refine ⟨by kernel_rfl, fun o L ho Il Uq Y => ?_⟩
 have I1 := mX _ _ o L h0 ho
 have L8 := xl (U := U) (b := o) (L := L)
 generalize U.new o (.loop L) = bT at *
 refine KX ?_
 unfold KW
 rw [fh (Nz _ _ I1).1, ej, bB, cn]
 refine ⟨aX (by omega) (by omega), ?_⟩
 refine ⟨fun m v0 v2 v3 v5 ae => ∃ ks f p, m = l.length - p /\ v0 = .o9 o /\ v2 = .box be 0 /\ v3 = .box bt 0 /\ v5 = .int .i64 (p : Nat) /\ n < p /\ p <= 300000 /\ l.length - p <= f /\ ks ++ ff l en f p = ff l en l.length (n + 1) /\ I ks ae /\ ∃ L1, ae.loop o = some L1 /\ L1.st .ready none = L /\ L1.state = .ready /\ L1.eN = none,
  ⟨_, [], l.length, n + 1, rfl, rfl, rfl, rfl, by simp, by omega, by omega, by omega, rfl, I1, L, L8, by cases L; simp_all [eZ.st], Il, Uq⟩, ?_⟩
 clear I1 L8
 rintro m v0 v2 v3 v5 bR ⟨ks, f, p, rfl, rfl, rfl, rfl, rfl, hnp, hp3, hf, gM, I2, L1, o4, eY, C4, A6⟩
 obtain ⟨k1, k2, k3⟩ := Nz _ _ I2
 rw [fh k2, ej, bB]
 simp only [bj, ai, aI, aB]
 have stop : ff l en f p = [] -> aj (JJ o Kn Ke Kr Kp) (.aO []) bR := fun h => by
  rw [h, ja] at gM
  refine aj.mk ⟨L1, o4, by rw [C4]; simp, ?_⟩
  rw [A6]
  exact fin ks bR o L1 gM I2 o4
 by_cases aJ : (p : Int) < en
 · have pw : p < l.length := by omega
   obtain ⟨x, hx⟩ : ∃ x, l[p]? = some x := ⟨l[p], by simp [pw]⟩
   cases f with
   | zero => omega
   | succ f =>
   have Fw : ff l en (f + 1) p = if 0 < x.size then p :: ff l en f (p + x.size.toNat) else [] := by
    simp only [ff, hx, aJ, true_and]
   simp only [aJ, bM, du, bl, au, aV, cq, lD k3, ej, eQ, fQ]
   refine vK hv hx fun r => ?_
   simp only [cQ, au, fQ, cM, jb, List.drop, kJ, eQ, dY, ay, if_true, ai, aW]
   refine ⟨fun hs => ?_, fun hs => ?_⟩
   · rw [if_pos hs] at Fw
     simp only [fM, ym]
     refine Y _ _ _ L1 rfl o4 eY ?_
     refine ⟨L1, o4, C4, ?_⟩
     have I3 := PK _ _ o L1 { L1 with state := .busy } I2 o4
     have sC : ks.length < l.length := by
      have := tG l en l.length (n + 1)
      rw [<- gM, Fw] at this
      simp at this; omega
     refine body ks p x _ o { L1 with state := .busy } _ I3 hx aJ hs hnp sC ⟨_, by rw [<- gM, Fw]⟩ fX (fun c8 I4 A7 wX => ?_) fun c8 hJ3 wX => ?_
     · refine ⟨_, wX, ?_⟩
       have I5 := PK _ _ o _ { L1 with state := .ready, eN := none } I4 wX
       obtain ⟨j1, j2, j3⟩ := Nz _ _ I5
       simp only [bu, cJ, ai, bU, aU, aV, cq]
       rw [fh j3, ej, bB]
       refine HI hv hx fun r => ?_
       simp only [cQ, ai, cM, jb, List.drop, og, bB, cn]
       refine ⟨aX (by omega) (by omega), _, ?_, ks ++ [p], f, p + x.size.toNat, rfl, rfl, rfl, rfl, ?_, by omega, by omega, by omega, ?_, I5, _, fX, by rw [<- eY]; rfl, rfl, rfl⟩
       · omega
       · congr 1; omega
       · rw [<- gM, Fw]; simp
     · refine ⟨_, wX, ?_⟩
       simp only [bu, cJ, ai, cZ, bf]
       refine aj.mk ⟨_, fX, by simp, ?_⟩
       exact Z4 _ o _ (hJ _ o _ _ hJ3 wX) fX
   · rw [if_neg hs] at Fw
     exact stop Fw
 · simp only [aJ, bZ, show (false == true) = false from rfl, a8, ay, bm, if_false, ai, aU]
   refine stop ?_
   cases f with
   | zero => rfl
   | succ f =>
     simp only [ff]
     split
     · rw [if_neg (fun h => aJ h.1)]
     · rfl
end Go.Rip
namespace Go.Rip
open Go.Proofs Go.RowKit
def mx (aE U : St) (v : AV) (es : List Int) : Prop := (es = [] /\ v = .ax) \/ ∃ b iz, v = .ms b 0 es.length 1 3 /\ U.box b = some (es.map (.int .i64) ++ iz) /\ aE.live b = none
section
variable {aE U : St} {R : cB -> St -> Prop} {K' : AV -> St -> Prop} {Kp : AV -> St -> Prop}
theorem P4 {b : Nat} {n a : Int} (hb : U.box b = some [.int .i64 n]) (h : R (.ret (.bool (decide (a <= n)))) U) : af K 133 [.int .i64 a, .box b 0] U R := by
 refine Kc ?_
 unfold Kb
 rw [fh hb, ej, bB]
 simp only [eK, ai]
 exact aj.mk h
theorem YB {b : Nat} {L : List AV} {es : List Int} {iz : List AV} (h : U.box b = some L) (hL : L = es.map (.int .i64) ++ iz) {i n : Nat} (hi : i < es.length) (hn : i < n) (hk : K' (.int .i64 es[i]) U) :
 (aF (some (3, 1)) none (.ms b 0 n 1 3) (.int .i64 (i : Nat))).wp K U (fun v U => (ao (some (false, 1)) v U).wp K U K' Kp) Kp := by
 rw [zJ]
 refine ⟨⟨by omega, by omega, rfl⟩, ?_⟩
 rw [fh h]
 have : L.drop (0 + (i : Int).toNat * 1) = .int .i64 es[i] :: ((es.map (AV.int .i64)).drop (i + 1) ++ iz) := by
  rw [hL, dC, Nat.mul_one, cq, List.drop_append_of_le_length (by simp; omega), gp (by simpa using hi)]
  simp
 rw [this, bB]
 exact hk
theorem Bd {b bn : Nat} {es : List Int} {iz : List AV} {n : Int} (hb : U.box b = some (es.map (.int .i64) ++ iz)) (hn : U.box bn = some [.int .i64 n]) (hl : es.length <= 100000)
 (h : (∃ k, k < es.length /\ (es.take k).all (fun a => decide (n < a)) = true /\ (∃ hk : k < es.length, es[k] <= n) /\ R (.ret (.int .i64 (k : Nat))) U) \/ (es.all (fun a => decide (n < a)) = true /\ R (.ret (.int .i64 (-1))) U)) :
 af K 210 [.ms b 0 es.length 1 3, .func (.func 133) [] [.box bn 0]] U R := by
 refine BB ?_
 unfold DS
 simp only [Ji, ai]
 refine ⟨fun m v0 v1 v7 v8 ae => ∃ i : Nat, m = es.length - i /\ i <= es.length /\ v0 = .ms b 0 es.length 1 3 /\ v1 = .func (.func 133) [] [.box bn 0] /\ v7 = .int .i64 es.length /\ v8 = .int .i64 i /\ ae = U /\ (es.take i).all (fun a => decide (n < a)) = true, ⟨_, 0, rfl, by omega, rfl, rfl, rfl, rfl, rfl, by simp⟩, ?_⟩
 rintro m v0 v1 v7 v8 ae ⟨i, rfl, hi, rfl, rfl, rfl, rfl, rfl, bq⟩
 simp only [bj, ai, aW]
 have Fs : ∀ (k : Nat) (hk : k < es.length), (es.take i).all (fun a => decide (n < a)) = true -> k < i -> n < es[k] := fun k hk ha Fx => by
  rw [dP] at ha
  have : es[k] ∈ es.take i := by
   rw [List.mem_iff_getElem]
   exact ⟨k, by simp; omega, by simp⟩
  simpa using ha _ this
 refine ⟨fun aJ => ?_, fun gn => ?_⟩
 · have aJ : i < es.length := by omega
   refine YB hb rfl aJ aJ ?_
   simp only [fM, show dz K.P 133 = true by kernel_rfl, if_true, iM, jc, jb]
   refine P4 hn ?_
   simp only [bu, aW]
   refine ⟨fun hle => ?_, fun uB => ?_⟩
   · rcases h with ⟨k, hk, nB, ⟨_, fp⟩, hR⟩ | ⟨hA, _⟩
     · have : k = i := by
        rcases Nat.lt_trichotomy k i with h | h | h
        · have := Fs k hk bq h; omega
        · exact h
        · rw [dP] at nB
          have hm : es[i] ∈ es.take k := by
           rw [List.mem_iff_getElem]
           exact ⟨i, by simp; omega, by simp⟩
          have := nB _ hm
          simp at this; omega
       subst this
       exact aj.mk hR
     · rw [dP] at hA
       have := hA es[i] (qE aJ)
       simp at this; omega
   · rw [cn]
     refine ⟨aX (by omega) (by omega), es.length - (i + 1), by omega, i + 1, rfl, by omega, rfl, rfl, rfl, by simp, rfl, ?_⟩
     rw [pk, iY aJ, List.all_append, bq]
     simp; omega
 · have hi : i = es.length := by omega
   subst hi
   rw [pj] at bq
   rcases h with ⟨k, hk, nB, ⟨_, fp⟩, hR⟩ | ⟨_, hR⟩
   · rw [dP] at bq
     have := bq es[k] (qE hk)
     simp at this; omega
   · exact aj.mk hR
theorem AR : ∀ (es : List Int) (n : Int), (∃ k, ∃ hk : k < es.length, (es.take k).all (fun a => decide (n < a)) = true /\ es[k] <= n) \/ es.all (fun a => decide (n < a)) = true
 | [], n => .inr rfl
 | a :: es, n => by
   by_cases ha : n < a
   · rcases AR es n with ⟨k, hk, h1, h2⟩ | h
     · exact .inl ⟨k + 1, by simp; omega, by simp [ha, h1], by simpa using h2⟩
     · exact .inr (by simp [ha, h])
   · exact .inl ⟨0, by simp, by simp, by simp; omega⟩
theorem H0 {v : AV} {bn : Nat} {es : List Int} {n : Int} (hv : mx aE U v es) (hn : U.box bn = some [.int .i64 n]) (hl : es.length <= 100000) (hE : cH aE U) (Ip : ∀ b, aE.live b = none -> v = .ms b 0 es.length 1 3 -> bn ≠ b)
 (h : ∀ ae v', mx aE ae v' (es.filter (n < ·)) -> cH aE ae -> (∀ b x, (∀ k, v ≠ .ms b 0 k 1 3) -> U.box b = some x -> ae.box b = some x) -> (∀ b k, v' = .ms b 0 k 1 3 -> v = .ms b 0 es.length 1 3) -> R (.ret v') ae) : af K 132 [v, .func (.func 133) [] [.box bn 0]] U R := by
 refine Ka ?_
 unfold J9
 rcases hv with ⟨rfl, rfl⟩ | ⟨b, iz, rfl, hb, uy⟩
 ·
  have Z7 : af K 210 [.ax, .func (.func 133) [] [.box bn 0]] U (ar (fun v10 U =>
   (ak .eql (BT.mk false false false none false) true v10 (AV.int .i64 (-1))).wp K U (fun v12 U => al v12 (aj R .ax U) False) (aa R)) (aa R)) := by
   refine BB ?_
   unfold DS
   simp only [len_nil, ai]
   refine ⟨fun m v0 v1 v7 v8 ae => v7 = .int .i64 0 /\ v8 = .int .i64 0 /\ ae = U, ⟨0, rfl, rfl, rfl⟩, ?_⟩
   rintro m v0 v1 v7 v8 ae ⟨rfl, rfl, rfl⟩
   simp only [bj, ai, show decide ((0 : Int) < 0) = false from rfl, aU]
   refine aj.mk ?_
   simp only [bu, aR, ai, bM, bf]
   exact aj.mk (h ae .ax (.inl ⟨rfl, rfl⟩) hE (fun _ _ _ h => h) (fun _ _ e => by cases e))
  refine Z7.mono fun r ae hr => ?_
  cases r with
  | panic x => exact hr
  | ret x =>
    simp only [bu] at hr ⊢
    refine av.wp_mono (fun v U hv => ?_) _ hr
    cases v <;> simp only [al] at hv ⊢
    exact ⟨hv.1, fun e => (hv.2 e).elim⟩
 · have CN : bn ≠ b := Ip b uy rfl
   rcases AR es n with ⟨k, hk, nB, fp⟩ | bq
   · refine Bd hb hn hl (.inl ⟨k, hk, nB, ⟨hk, fp⟩, ?_⟩)
     have hkn : ¬ ((k : Nat) : Int) = -1 := by omega
     simp only [bu, aR, ai, hkn, bZ, aU, cn]
     refine ⟨aX (by omega) (by omega), ?_⟩
     have PE : (es.take (k + 1)).filter (n < ·) = es.take k := by
      rw [pk, iY hk, List.filter_append]
      have h1 : (es.take k).filter (n < ·) = es.take k := by
       rw [List.filter_eq_self]
       intro a ha
       rw [dP] at nB
       exact nB a ha
      rw [h1]
      have : ¬ n < es[k] := by omega
      simp [this]
     refine ⟨fun m v0 v1 v5 v6 ae => ∃ (i j : Nat) (arr : List AV), m = es.length - j /\ v0 = .ms b 0 es.length 1 3 /\ v1 = .func (.func 133) [] [.box bn 0] /\ v5 = .int .i64 (i : Nat) /\ v6 = .int .i64 (j : Nat) /\ j <= es.length /\ i < j /\ ae.box b = some arr /\ arr.take i = ((es.take j).filter (n < ·)).map (.int .i64) /\ i = ((es.take j).filter (n < ·)).length /\ arr.drop j = (es.drop j).map (.int .i64) ++ iz /\ arr.length = es.length + iz.length /\ (∀ c, c ≠ b -> ae.live c = U.live c),
      ⟨_, k, k + 1, es.map (.int .i64) ++ iz, rfl, rfl, rfl, rfl, by simp, by omega, by omega, hb, ?_, ?_, ?_, by simp, fun _ _ => rfl⟩, ?_⟩
     · rw [PE, List.take_append_of_le_length (by simp; omega), <- List.map_take]
     · rw [PE]; simp; omega
     · rw [List.drop_append_of_le_length (by simp; omega), <- List.map_drop]
     · rintro m v0 v1 v5 v6 ae ⟨i, j, arr, rfl, rfl, rfl, rfl, rfl, hj, fE, dA, Pz, Us, YU, ha4, yS⟩
       simp only [Ji, ai, bj, aW]
       refine ⟨fun aJ => ?_, fun gn => ?_⟩
       · have aJ : j < es.length := by omega
         intro jj w9
         have Zg : ae.box bn = some [.int .i64 n] := by rw [fW (yS bn CN)]; exact hn
         rw [zJ]
         refine ⟨⟨by omega, by omega, rfl⟩, ?_⟩
         rw [fh dA]
         obtain ⟨rr, hd⟩ : ∃ rr, arr.drop (0 + (j : Int).toNat * 1) = .int .i64 es[j] :: rr := by
          rw [dC, Nat.mul_one, cq, YU, gp aJ, dx]
          exact ⟨_, rfl⟩
         rw [hd, bB]
         simp only [fM, show dz K.P 133 = true by kernel_rfl, if_true, iM, jc, jb]
         refine P4 Zg ?_
         have sF : es.take (j + 1) = es.take j ++ [es[j]] := by rw [pk, iY aJ]; rfl
         have w8 : arr.drop (j + 1) = (es.drop (j + 1)).map (.int .i64) ++ iz := by
          rw [<- List.drop_drop, YU, gp aJ, dx]; rfl
         simp only [bu, cJ, ai]
         by_cases hle : es[j] <= n
         · simp only [hle, bM, bU, aU]
           refine w9 _ _ _ _ _ ?_
           simp only [cn]
           refine ⟨aX (by omega) (by omega), es.length - (j + 1), by omega, i, j + 1, arr, rfl, rfl, rfl, rfl, by simp, by omega, by omega, dA, ?_, ?_, w8, ha4, yS⟩
           · rw [sF, List.filter_append, Pz]
             have : ¬ n < es[j] := by omega
             simp [this]
           · rw [sF, List.filter_append]
             have : ¬ n < es[j] := by omega
             simp only [List.filter_cons, this, bZ, bm, if_false, List.filter_nil, ja]
             exact Us
         · simp only [hle, bZ, cZ, bf]
           rw [zJ]
           refine ⟨⟨by omega, by omega, rfl⟩, ?_⟩
           rw [dD dA]
           refine ⟨⟨rfl, rfl, by simp; omega⟩, ?_⟩
           rw [cn]
           refine ⟨aX (by omega) (by omega), ?_⟩
           refine w9 _ _ _ _ _ ?_
           simp only [cn]
           have yX : aH arr (0 + (i : Int).toNat * 1) (aA (.int .i64 es[j])) = arr.take i ++ [.int .i64 es[j]] ++ arr.drop (i + 1) := by
            simp [aH]
           have CV : (arr.take i).length = i := by simp; omega
           refine ⟨aX (by omega) (by omega), es.length - (j + 1), by omega, i + 1, j + 1, _, rfl, rfl, rfl, by simp, by simp, by omega, by omega, bo, ?_, ?_, ?_, ?_, fun c hc => by rw [eM, if_neg hc]; exact yS c hc⟩
           · rw [yX, List.take_append_of_le_length (by simp; omega), qC (by simp; omega), Pz, sF, List.filter_append]
             have : n < es[j] := by omega
             simp [this]
           · rw [sF, List.filter_append]
             have : n < es[j] := by omega
             simp only [List.filter_cons, this, bM, if_true, List.filter_nil, fU, jy, oE]
             omega
           · rw [yX, <- w8]
             rw [List.drop_append, List.drop_eq_nil_of_le (by simp; omega), jc, List.drop_drop]
             congr 1
             simp
             omega
           · rw [yX]; simp; omega
       · have hje : j = es.length := by omega
         subst hje
         rw [pj] at Pz Us
         simp only [dU, cV, wp_cond, ai]
         refine ⟨⟨by omega, by omega, by omega, by omega, trivial⟩, ?_⟩
         simp only [yz, dA, wp_cond, jq]
         refine ⟨⟨trivial, by simp; omega⟩, ⟨by omega, by omega, by omega, by simp, trivial⟩, ?_⟩
         refine aj.mk (h _ _ (.inr ⟨b, (aH arr (0 + (i : Int).toNat * 1) (bN ((es.length : Int).toNat - (i : Int).toNat) [.int .i64 0])).drop i, ?_, ?_, uy⟩) ?_ ?_ ?_)
         · simp [Us]
         · rw [bo]
           congr 1
           have hz : (bN (es.length - i) [AV.int .i64 0]).length = es.length - i := by simp [je]
           simp only [dC, Nat.mul_one, cq]
           conv => lhs; rw [<- List.take_append_drop i (aH arr i _)]
           congr 1
           simp only [aH, qD]
           rw [List.take_append_of_le_length (by simp; omega), qC (by simp; omega)]
           exact Pz
         · refine cH.set (fun c x e => ?_) uy
           by_cases hc : c = b
           · subst hc; rw [uy] at e; cases e
           · rw [yS c hc]; exact hE c x e
         · intro c x hc hx
           have YW : c ≠ b := fun e => hc es.length (by rw [e])
           rw [aY YW, fW (yS c YW)]; exact hx
         · intro c k e
           simp only [AV.ms.injEq] at e
           rw [e.1]
   · refine Bd hb hn hl (.inr ⟨bq, ?_⟩)
     simp only [bu, aR, ai, bM, bf]
     have hf : es.filter (n < ·) = es := by
      rw [List.filter_eq_self]
      intro a ha
      rw [dP] at bq
      exact bq a ha
     exact aj.mk (h U _ (by rw [hf]; exact .inr ⟨b, iz, rfl, hb, uy⟩) hE (fun _ _ _ h => h) (fun b' k e => by cases e; rfl))
end
end Go.Rip
namespace Go.Rip
open Go.Proofs Go.RowKit
section
variable {aE U : St} {R : cB -> St -> Prop} {K' : AV -> St -> Prop} {Kp : AV -> St -> Prop} {v : AV} {es : List Int}
theorem Ng (h : mx aE U v es) : bw (some false) v = .val (.int .i64 es.length) := by
 rcases h with ⟨rfl, rfl⟩ | ⟨b, iz, rfl, _, _⟩ <;> rfl
theorem Nf {bx : Nat} {a : Int} (hv : mx aE U v es) (hy : U.box bx = some [.int .i64 a]) (E : cH aE U) (hl : es.length <= 100000) (h : ∀ ae v', mx aE ae v' (es ++ [a]) -> cH aE ae -> K' v' ae) :
 (eJ (some (3, 1)) true v (.ms bx 0 1 1 3) U).wp K U K' Kp := by
 have GQ : pn U (.ms bx 0 1 1 3) = some (1, [.int .i64 a]) := by simp [pn, hy]
 rcases hv with ⟨rfl, rfl⟩ | ⟨b, iz, rfl, hb, uy⟩
 · simp only [eJ, GQ, wp_cond]
   refine ⟨rfl, by omega, fun b hf => ?_⟩
   exact h _ _ (.inr ⟨b, [], rfl, by rw [show U.pc none = U from rfl]; exact aN, E.fresh hf.1⟩) (E.new hf)
 · refine MM hb GQ ⟨rfl, by simp, by omega⟩ fun b' hf => ?_
   refine h _ _ (.inr ⟨b', [], by simp, ?_, ?_⟩) ((E.del uy).new hf)
   · rw [aN]; simp
   · have hd := hf.1
     by_cases e : b' = b
     · rw [e]; exact uy
     · rw [na, if_neg e] at hd; exact E.fresh hd
end
theorem GC {v : AV} {l : List Nd} (hv : dX v l.length (cF l)) (hc : closed v = true) (hl : l.length <= 100000) (h0 : l ≠ []) (hs : ∀ x ∈ l, 0 <= x.size /\ x.size <= 100000) (qX : jm l <= l.length) : Pure K 69 [.agg [v]] (.bool (qe l)) := by
 refine Pure.of (by simp [bG, closed, hc]) rfl (fun U => rfl) fun R hR => ?_
 refine Ow ?_
 unfold Qw
 rw [dO rfl]
 intro b1 dK
 have m1 : ((br ⟨.e, 0⟩).new b1 (.box (aA (.agg [v])))).box b1 = some [v] := aN
 generalize (br _).new b1 _ = aE at *
 clear dK
 simp only [aV, ai, cq]
 rw [fh m1, ej, bB, hv.len, ai]
 refine ⟨fun m v1 v2 v3 v8 v9 v10 ae => ∃ (i : Nat) (es : List Int), m = l.length - i /\ v1 = .box b1 0 /\ v2 = .bool false /\ v8 = v /\ v9 = .int .i64 l.length /\ v10 = .int .i64 (i : Nat) /\ i <= l.length /\ mx aE ae v3 es /\ es.length <= i /\ gX (l.drop i) i es = gX l 0 [] /\ cH aE ae,
  ⟨_, 0, [], rfl, rfl, rfl, rfl, rfl, rfl, by omega, .inl ⟨rfl, rfl⟩, by simp, rfl, cH.refl _⟩, ?_⟩
 rintro m v1 v2 v3 v8 v9 v10 bT ⟨i, es, rfl, rfl, rfl, rfl, rfl, rfl, hi, vg, UB, hg, E1⟩
 simp only [bj, ai, aW]
 refine ⟨fun aJ => ?_, fun gn => ?_⟩
 · have aJ : i < l.length := by omega
   obtain ⟨x, hx⟩ : ∃ x, l[i]? = some x := ⟨l[i], by simp [aJ]⟩
   have ve : l.drop i = x :: l.drop (i + 1) := by
    rw [gp aJ]
    have := (dy.1 hx).2
    rw [this]
   rw [ve, gX] at hg
   refine HI hv hx fun r => ?_
   rw [AF]
   refine ⟨by simp [cM], ?_⟩
   have CL : (cM x ++ r).take 6 = cM x := by simp [cM]
   rw [CL, dQ]
   intro b4 o5
   rw [dQ]
   intro b5 Io
   have m4 : (bT.new b4 (.box [.int .i64 0])).box b4 = some [.int .i64 0] := aN
   have ZK := Io.cD m4
   have f4 := E1.fresh o5.1
   have E2 := E1.new o5 (x := .box [.int .i64 0])
   have NC : mx aE (bT.new b4 (.box [.int .i64 0])) v3 es /\ (∀ b, v3 = .ms b 0 es.length 1 3 -> b4 ≠ b) := by
    rcases vg with h | ⟨b, iz, rfl, h2, h3⟩
    · exact ⟨.inl h, fun b e => by rw [h.2] at e; cases e⟩
    · have := o5.cD h2
      exact ⟨.inr ⟨b, iz, rfl, by rw [nP this]; exact h2, h3⟩, fun b' e => by cases e; exact this.symm⟩
   obtain ⟨NC, NG⟩ := NC
   clear vg
   generalize bT.new b4 (.box [.int .i64 0]) = bR at *
   have m5 : (bR.new b5 (.box [AV.int .u8 0, AV.str [], AV.int .i64 0, AV.int .i64 0, AV.int .i64 0, AV.int .i64 0])).box b5 = some [AV.int .u8 0, AV.str [], AV.int .i64 0, AV.int .i64 0, AV.int .i64 0, AV.int .i64 0] := aN
   have f5 := E2.fresh Io.1
   have E3 := E2.new Io (x := .box [AV.int .u8 0, AV.str [], AV.int .i64 0, AV.int .i64 0, AV.int .i64 0, AV.int .i64 0])
   have m4' := (bH Io (x := .box [AV.int .u8 0, AV.str [], AV.int .i64 0, AV.int .i64 0, AV.int .i64 0, AV.int .i64 0])).bL m4
   have ND : mx aE (bR.new b5 (.box [AV.int .u8 0, AV.str [], AV.int .i64 0, AV.int .i64 0, AV.int .i64 0, AV.int .i64 0])) v3 es /\ (∀ b, v3 = .ms b 0 es.length 1 3 -> b5 ≠ b) := by
    rcases NC with h | ⟨b, iz, rfl, h2, h3⟩
    · exact ⟨.inl h, fun b e => by rw [h.2] at e; cases e⟩
    · have := Io.cD h2
      exact ⟨.inr ⟨b, iz, rfl, by rw [nP this]; exact h2, h3⟩, fun b' e => by cases e; exact this.symm⟩
   obtain ⟨ND, U0⟩ := ND
   generalize bR.new b5 (.box [AV.int .u8 0, AV.str [], AV.int .i64 0, AV.int .i64 0, AV.int .i64 0, AV.int .i64 0]) = c8 at *
   rw [dD m4']
   refine ⟨⟨rfl, rfl, by simp⟩, ?_⟩
   rw [dD (show (c8.set b4 _).box b5 = some _ by rw [aY ZK.symm]; exact m5)]
   refine ⟨⟨rfl, rfl, by simp [cM]⟩, ?_⟩
   have E4 := (E3.set f4 (x := .box (aH [.int .i64 0] 0 (aA (.int .i64 (i : Nat)))))).set f5 (x := .box (aH [AV.int .u8 0, AV.str [], AV.int .i64 0, AV.int .i64 0, AV.int .i64 0, AV.int .i64 0] 0 (aA (.agg (cM x)))))
   have g4 : ((c8.set b4 (.box (aH [.int .i64 0] 0 (aA (.int .i64 (i : Nat)))))).set b5 (.box (aH [AV.int .u8 0, AV.str [], AV.int .i64 0, AV.int .i64 0, AV.int .i64 0, AV.int .i64 0] 0 (aA (.agg (cM x)))))).box b4 = some [.int .i64 (i : Nat)] := by
    rw [aY ZK, bo]; rfl
   have g5 : ((c8.set b4 (.box (aH [.int .i64 0] 0 (aA (.int .i64 (i : Nat)))))).set b5 (.box (aH [AV.int .u8 0, AV.str [], AV.int .i64 0, AV.int .i64 0, AV.int .i64 0, AV.int .i64 0] 0 (aA (.agg (cM x)))))).box b5 = some (cM x) := by
    rw [bo]; rfl
   have UC : mx aE ((c8.set b4 (.box (aH [.int .i64 0] 0 (aA (.int .i64 (i : Nat)))))).set b5 (.box (aH [AV.int .u8 0, AV.str [], AV.int .i64 0, AV.int .i64 0, AV.int .i64 0, AV.int .i64 0] 0 (aA (.agg (cM x)))))) v3 es := by
    rcases ND with h | ⟨b, iz, rfl, h2, h3⟩
    · exact .inl h
    · exact .inr ⟨b, iz, rfl, by rw [aY (U0 b rfl).symm, aY (NG b rfl).symm]; exact h2, h3⟩
   generalize (c8.set b4 (.box (aH [.int .i64 0] 0 (aA (.int .i64 (i : Nat)))))).set b5 (.box (aH [AV.int .u8 0, AV.str [], AV.int .i64 0, AV.int .i64 0, AV.int .i64 0, AV.int .i64 0] 0 (aA (.agg (cM x))))) = dq at *
   refine H0 UC g4 (by omega) E4 (fun b _ e => NG b e) fun eh v' UD E5 hk5 _ => ?_
   have lf : ∀ b y, b4 = b \/ b5 = b -> dq.box b = some y -> eh.box b = some y := fun b y hb hy => by
    refine hk5 b y (fun k e => ?_) hy
    rcases UC with h | ⟨b', iz, rfl, h2, h3⟩
    · rw [h.2] at e; cases e
    · simp only [AV.ms.injEq] at e
      rcases hb with rfl | rfl
      · exact NG b' rfl e.1.symm
      · exact U0 b' rfl e.1.symm
   have YI := lf b4 _ (.inl rfl) g4
   have YJ := lf b5 _ (.inr rfl) g5
   simp only [bu, Ng UD, ai, dY, aW]
   have CP : (es.filter ((i : Int) < ·)).length <= es.length := List.length_filter_le _ _
   refine ⟨fun uB => ?_, fun hle => ?_⟩
   · rw [if_pos (by omega)] at hg
     refine aj.mk ?_
     have : qe l = true := by simp [qe, <- hg]
     rw [this] at hR
     exact hR _
   · rw [if_neg (by omega)] at hg
     have xf := hs x (fB hx)
     rw [fh YI, ej, bB]
     simp only [aV, ai, cq]
     rw [fh YJ]
     simp only [cM, List.drop, bB, cn]
     refine ⟨aX (by omega) (by omega), ?_⟩
     rw [BE]
     refine ⟨by omega, ?_⟩
     rw [eR (o := 0) (s := 1) rfl]
     refine ⟨⟨rfl, rfl, by simp [bN]⟩, ?_⟩
     rw [F9]
     refine ⟨rfl, fun bx qW => ?_⟩
     have aaf : mx aE (eh.new bx (.box (aH (bN 1 [AV.int .i64 0]) 0 (aA (.int .i64 ((i : Int) + x.size)))))) v' (es.filter ((i : Int) < ·)) := by
      rcases UD with h | ⟨b', iz, rfl, h2, h3⟩
      · exact .inl h
      · exact .inr ⟨b', iz, rfl, by rw [nP (qW.cD h2)]; exact h2, h3⟩
     refine Nf aaf (by rw [aN]; rfl) (E5.new qW) (by omega) fun nM v7 aag E7 => ?_
     refine ⟨aX (by omega) (by omega), l.length - (i + 1), by omega, i + 1, _, rfl, rfl, rfl, rfl, rfl, by simp, by omega, aag, by simp; omega, hg, E7⟩
 · have hi : i = l.length := by omega
   subst hi
   rw [List.drop_length] at hg
   have UJ : gX l 0 [] = false := hg.symm
   have uB : qe l = decide (24 < (ff l (jm l) l.length 1).length) := by simp [qe, UJ]
   rw [uB] at hR
   rw [dQ]
   intro b6 qU
   have m6 : (bT.new b6 (.box [.int .i64 0])).box b6 = some [.int .i64 0] := aN
   have Vs := (E1.new qU (x := .box [.int .i64 0])).bL m1
   have n16 := qU.cD (E1.bL m1)
   generalize bT.new b6 (.box [.int .i64 0]) = bR at *
   rw [dD m6]
   refine ⟨⟨rfl, rfl, by simp⟩, ?_⟩
   have P5 : (bR.set b6 (.box (aH [.int .i64 0] 0 (aA (.int .i64 0))))).box b6 = some [.int .i64 (([] : List Nat).length : Nat)] := by rw [bo]; rfl
   have aaJ : (bR.set b6 (.box (aH [.int .i64 0] 0 (aA (.int .i64 0))))).box b1 = some [v8] := by rw [aY n16]; exact Vs
   generalize bR.set b6 (.box (aH [.int .i64 0] 0 (aA (.int .i64 0)))) = c8 at *
   rw [rD aaJ]
   refine ⟨by simp, ?_⟩
   refine oZ [v8] (by simp [xJ, hv.cS, aH]) ?_
   cases l with
   | nil => exact absurd rfl h0
   | cons x0 l =>
   have hx0 := hs x0 (by simp)
   refine xS (n := 0) (x := x0) hv rfl (aX (by simp; omega) (by simp; omega)) fun bn be bt dq d1 d2 d3 f1 f2 f3 k1 k2 k3 e4 => ?_
   have m6n := e4.bL P5
   have en : (((0 : Nat) : Int) + x0.size) = jm (x0 :: l) := by simp [jm]
   rw [en] at k2
   have nn : bn ≠ b6 := fun e => by rw [e] at f1; exact dR P5 f1
   have ne : be ≠ b6 := fun e => by rw [e] at f2; exact dR P5 f2
   have nt : bt ≠ b6 := fun e => by rw [e] at f3; exact dR P5 f3
   refine tZ (fun ks U => U.box b6 = some [.int .i64 (ks.length : Nat)] /\ U.box bn = some [.int .i64 ((0 : Nat) : Int)] /\ U.box be = some [.int .i64 (jm (x0 :: l))] /\ U.box bt = some [v8] /\ True) (fun _ => False) hv (by simp) (by omega) qX
    (fun ks U h => h.2.imp id fun h => h.imp id fun h => h.1) (fun ks U o L L' h hL => ?_) (fun ks U o L h ho => ?_) (fun _ _ _ _ h => h.elim) (fun ks fO x eh o L1 q hI hx aJ mY Zh sC _ hL hn hr => ?_) (fun ks eh o L gM hI hL => ?_) (fun _ _ _ h => h.elim) ⟨m6n, k1, k2, k3, trivial⟩
   · exact ⟨by rw [aY (bX h.1 hL)]; exact h.1, by rw [aY (bX h.2.1 hL)]; exact h.2.1, by rw [aY (bX h.2.2.1 hL)]; exact h.2.2.1, by rw [aY (bX h.2.2.2.1 hL)]; exact h.2.2.2.1, h.2.2.2.2⟩
   · have e := bH ho (x := .loop L)
     exact ⟨e.bL h.1, e.bL h.2.1, e.bL h.2.2.1, e.bL h.2.2.2.1, h.2.2.2.2⟩
   · obtain ⟨i1, i2, i3, i4, i5⟩ := hI
     rw [fh i1, ej, bB, cn]
     refine ⟨aX (by omega) (by omega), ?_⟩
     rw [dD i1]
     refine ⟨⟨rfl, rfl, by simp⟩, ?_⟩
     refine hn _ ⟨by rw [bo]; simp [aH], by rw [aY nn]; exact i2, by rw [aY ne]; exact i3, by rw [aY nt]; exact i4, trivial⟩ (hs x (fB hx)).2 (by rw [fA]; exact hL; rw [eM, if_neg (bX i1 hL).symm])
   · obtain ⟨i1, i2, i3, i4, i5⟩ := hI
     have i1' : (eh.del o).box b6 = some [.int .i64 (ks.length : Nat)] := by rw [hX (bX i1 hL)]; exact i1
     show (ao (some (false, 1)) (.box b6 0) (eh.del o)).wp K (eh.del o) _ _
     rw [fh i1', ej, bB]
     simp only [dY, ai]
     subst gM
     refine aj.mk ?_
     have := hR (eh.del o)
     have e : decide ((24 : Int) < ((ff (x0 :: l) (jm (x0 :: l)) (x0 :: l).length (0 + 1)).length : Nat)) = decide (24 < (ff (x0 :: l) (jm (x0 :: l)) (x0 :: l).length 1).length) := by
      rw [lE]; simp only [cL, cq]; omega
     rw [e]; exact this
end Go.Rip
namespace Go.Rip
open Go.Proofs Go.RowKit
theorem JS {U : St} {a b : Nat} {l : List AV} (h : b ≠ a) : (U.bW a l).live b = U.live b := by
 simp [St.bW, St.set, h]
theorem gU.bW {r : Nat} {U ae : St} {b : Nat} {l : List AV} (h : gU r U ae) (n : U.live b = none) : gU r U (ae.bW b l) := fun c y m e => by
 by_cases hc : c = b
 · subst hc; rw [n] at e; cases e
 · rw [JS hc]; exact h c y m e
theorem ek.scalar {a : AV} {ns : List Nd} (hk : ek false [a] ns) : a.scalar = true := by
 generalize hb : false = b at hk
 generalize hl : [a] = la at hk
 cases hk with
 | mk _ _ => cases hl; rfl
 | nil => cases hl
 | cons _ _ => cases hb
section
variable {X : Rx} {r i : Nat} {U : St} {R : cB -> St -> Prop}
end
def qu (l : List Nd) : AV := if l = [] then .ax else .vec l.length .hC (cF l)
end Go.Rip
