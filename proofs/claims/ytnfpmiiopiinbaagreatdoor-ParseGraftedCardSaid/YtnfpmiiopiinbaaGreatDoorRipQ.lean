/- Lemmas for the proof: no conditions. -/
import Derived.Test.YtnfpmiiopiinbaaGreatDoorRipZz
import Derived.Test.YtnfpmiiopiinbaaGreatDoorRipO
import Derived.Test.YtnfpmiiopiinbaaGreatDoorRipP
import Derived.Test.YtnfpmiiopiinbaaGreatDoorRipI
import Derived.Test.YtnfpmiiopiinbaaGreatDoorRipK
set_option linter.unusedVariables false
set_option linter.unusedSimpArgs false
set_option linter.loopingSimpArgs false
namespace Go.Rip
open Go.Proofs Go.RowKit
def bD (x : Nd) : List AV := [.int .u8 x.kind, .str x.text, .int .i64 x.n, .int .i64 x.m, .int .i64 x.at_, .int .i64 x.size]
def bm (l : List Nd) : List AV := l.flatMap bD
theorem DU (l l' : List Nd) : bm (l ++ l') = bm l ++ bm l' := by simp [bm]
theorem eS (L : List Nd) : (bm L).length = 6 * L.length := by
 induction L with
 | nil => rfl
 | cons t L ih =>
   have : (bm (t :: L)).length = 6 + (bm L).length := by simp [bm, bD]; omega
   rw [this, ih, nc]; omega
theorem Av (L : List Nd) (i : Nat) : (bm L).drop (i * 6) = bm (L.drop i) := by
 induction L generalizing i with
 | nil => simp [bm]
 | cons t L ih =>
   cases i with
   | zero => simp
   | succ i =>
     rw [Nat.add_mul, show i * 6 + 1 * 6 = 6 + i * 6 by omega, <- List.drop_drop, List.drop_succ_cons, <- ih]
     rfl
theorem rN {L : List Nd} {i : Nat} {t : Nd} (h : L[i]? = some t) : ∃ r, (bm L).drop (i * 6) = bD t ++ r := by
 rw [Av, gp (dx.1 h).1]
 refine ⟨bm (L.drop (i + 1)), ?_⟩
 have := (dx.1 h).2
 simp [bm, this]
section
variable {C : bX} {U : St} {K' : AV -> St -> Prop} {Kp : AV -> St -> Prop} {e sz n b m : Nat} {L l2 z : List AV} {y : AV}
theorem AL {ps : List (Nat × AV)} : (aH (some (e, sz)) (some z) n true ps).wp C U K' Kp = (n * sz <= 16777216 /\ (ek (fun i => some (i * sz, sz)) ps (bw n z) fun cs => .cond (cs.length = n * sz) (.lf n sz e none cs)).wp C U K' Kp) := by
 simp only [aH, if_true]; rfl
theorem Ff {pl : Nat -> Option (Nat × Nat)} {k : Nat} : (ek pl [] L fun cs => .cond (cs.length = k) (.lf n sz e none cs)).wp C U K' Kp = (L.length = k /\ ∀ b, U.cB b -> K' (.ms b 0 n sz e) (U.new b (.box L))) := rfl
theorem Dj {mu : Bool} (hb : U.box b = some L) (hy : oF U y = some (m, l2)) (h : l2.length = m * sz /\ n * sz <= L.length /\ n + m <= 4294967296) (hk : ∀ b', (U.del b).cB b' -> K' (.ms b' 0 (n + m) sz e) ((U.del b).new b' (.box (L.take (n * sz) ++ l2)))) : (dS (some (e, sz)) mu (.ms b 0 n sz e) y U).wp C U K' Kp := by
 simp only [dS, hy, hb, wp_cond]
 exact ⟨h.1, ⟨trivial, trivial, trivial, h.2.1, h.2.2⟩, hk⟩
end
theorem dJ.split {ks : List AV} {l : List Nd} {a : AV} {i : Nat} (h : dJ true (ks.drop i) l) (ha : ks[i]? = some a) : ∃ l1 l2, l = l1 ++ l2 /\ dJ false [a] l1 /\ dJ true (ks.drop (i + 1)) l2 := by
 obtain ⟨aK, rfl⟩ := dx.1 ha
 rw [gp aK] at h
 generalize hb : true = b at h
 generalize hl : ks[i] :: ks.drop (i + 1) = la at h
 cases h with
 | mk _ _ => cases hb
 | nil => cases hl
 | cons h1 h2 => cases hl; exact ⟨_, _, rfl, h1, h2⟩
theorem dJ.le : ∀ {ks : List AV} {l : List Nd}, dJ true ks l -> ks.length <= l.length
 | [], _, _ => by simp
 | a :: ks, l, h => by
   obtain ⟨l1, l2, rfl, h1, h2⟩ := dJ.split (ks := a :: ks) (a := a) (i := 0) h rfl
   obtain ⟨x, r, e, _⟩ := h1.size
   have := dJ.le (ks := ks) h2
   rw [e]; simp; omega
end Go.Rip
namespace Go.Rip
open Go.Proofs Go.RowKit
theorem eN.Wl {v : AV} {l : List Nd} (h : eN v l.length (bm l)) {i : Nat} {x : Nd} (hx : l[i]? = some x) {e : Nat} : ∃ r, aP (some (e, 6)) none v (.int .i64 (i : Int)) = .cond (0 <= (i : Int) /\ (i : Int) < l.length) (.val (.bY (bD x ++ r))) := by
 obtain ⟨c, rfl, qd⟩ := h.at (sz := 6) (e := e) (dx.1 hx).1
 obtain ⟨r, hr⟩ := rN hx
 exact ⟨r, by rw [qd, hr]⟩
section
variable {C : bX} {U : St} {K' : AV -> St -> Prop} {Kp : AV -> St -> Prop} {k : AV -> Prop} {v : AV} {l : List Nd} {i e : Nat} {x : Nd}
theorem Hc (h : eN v l.length (bm l)) (hx : l[i]? = some x) (hk : ∀ r, K' (.bY (bD x ++ r)) U) : (aP (some (e, 6)) none v (.int .i64 (i : Int))).wp C U K' Kp := by
 obtain ⟨r, hr⟩ := h.Wl hx (e := e)
 rw [hr]
 have := (dx.1 hx).1
 exact ⟨by omega, hk r⟩
theorem sU (h : eN v l.length (bm l)) (hx : l[i]? = some x) (hk : ∀ r, k (.bY (bD x ++ r))) : ai C (aP (some (e, 6)) none v (.int .i64 (i : Int))) k := by
 obtain ⟨r, hr⟩ := h.Wl hx (e := e)
 rw [hr]
 have := (dx.1 hx).1
 exact ⟨by omega, hk r⟩
end
theorem eN.cC {v : AV} {n : Nat} {cs : List AV} (h : eN v n cs) : v.cC = true /\ au v = [v] := by
 rcases h with ⟨rfl, rfl, rfl⟩ | ⟨c, rfl⟩ <;> exact ⟨rfl, rfl⟩
theorem Cz {U : St} {R : cu -> St -> Prop} {v : AV} {l : List Nd} {n : Nat} {x : Nd} (hv : eN v l.length (bm l)) (hx : l[n]? = some x) (ZE : pX ((n : Int) + x.size))
 (h : ∀ bn be bt ad, bn ≠ be -> bn ≠ bt -> be ≠ bt -> U.live bn = none -> U.live be = none -> U.live bt = none -> ad.box bn = some [.int .i64 (n : Nat)] -> ad.box be = some [.int .i64 ((n : Int) + x.size)] -> ad.box bt = some [v] -> cm U ad -> R (.ret (.func (.func 155) [] [.box bn 0, .box be 0, .box bt 0])) ad) : ae K 81 [.agg [v], .int .i64 (n : Nat)] U R := by
 refine MO ?_
 unfold OJ
 rw [eC rfl]
 intro bt WC
 rw [eC rfl]
 intro bn xL
 have mt : (U.new bt (.box (au (.agg [v])))).box bt = some [v] := aD
 have e1 := bj WC (x := .box (au (.agg [v])))
 have Zu : U.live bt = none := WC.1
 generalize U.new bt (.box (au (.agg [v]))) = bH at *
 have e2 := bj xL (x := .box (au (.int .i64 (n : Nat))))
 have mn : (bH.new bn (.box (au (.int .i64 (n : Nat))))).box bn = some [.int .i64 (n : Nat)] := aD
 have ntn := xL.cn mt
 have Zv : U.live bn = none := e1.fresh xL.1
 generalize bH.new bn (.box (au (.int .i64 (n : Nat)))) = bJ at *
 have SQ := e2.bf mt
 simp only [oD mn, dU, fP, aU, aC, cD, oD SQ]
 refine sU hv hx fun r => ?_
 simp only [cQ, aC, bD, jh, List.drop, mY, fP, o0]
 refine ⟨ZE, ?_⟩
 rw [cw]
 intro be rz
 have e3 := bj rz (x := .box [.int .i64 0])
 have me : (bJ.new be (.box [.int .i64 0])).box be = some [.int .i64 0] := aD
 have SV := rz.cn mn
 have SY := rz.cn SQ
 have Wp : U.live be = none := (e1.trans e2).fresh rz.1
 refine ⟨?_, ?_⟩
 · intro b hb
   simp only [bV, gH, iI, dA, eH, List.not_mem_nil, or_false] at hb
   have : b = bn \/ b = bt := by
    rcases hb with h | h | h <;> simp_all
   rw [lZ]
   rcases this with rfl | rfl
   · rw [if_neg SV]
   · rw [if_neg SY]
 · rw [cF me]
   refine ⟨⟨rfl, rfl, by simp⟩, al.mk (h bn be bt _ SV ntn.symm SY.symm Zv Wp Zu ?_ ?_ ?_ ((e1.trans (e2.trans e3)).set Wp))⟩
   · rw [aE SV]; exact e3.bf mn
   · rw [aR]; rfl
   · rw [aE SY]; exact e3.bf SQ
theorem wX (l : List Nd) (en : Int) : ∀ (f p : Nat), (fm l en f p).length <= f
 | 0, _ => by simp [fm]
 | f + 1, p => by
   simp only [fm]
   split
   · split
     · have := wX l en f (p + (Nd.size ‹_›).toNat)
       simp; omega
     · simp
   · simp
theorem yl {v : AV} {l : List Nd} {n : Nat} {en : Int} {bn be bt : Nat} {U : St} {B : AV -> Qr -> St -> Prop} {Kn : St -> Prop} {Ke : Nat -> St -> Prop} {Kr : St -> Prop} {Kp : AV -> St -> Prop} (I : List Nat -> St -> Prop) (J : St -> Prop)
 (hv : eN v l.length (bm l)) (hn : n < l.length) (hlen : l.length <= 100000) (WE : en <= l.length)
 (LS : ∀ ks U, I ks U -> U.box bn = some [.int .i64 (n : Nat)] /\ U.box be = some [.int .i64 en] /\ U.box bt = some [v])
 (NT : ∀ ks U o L L', I ks U -> U.loop o = some L -> I ks (U.set o (.loop L')))
 (lX : ∀ ks U o L, I ks U -> U.cB o -> I ks (U.new o (.loop L)))
 (hJ : ∀ U o L L', J U -> U.loop o = some L -> J (U.set o (.loop L')))
 (body : ∀ (ks : List Nat) (lr : Nat) (x : Nd) (bH : St) (o : Nat) (L1 : ey) (q : Qr), I ks bH -> l[lr]? = some x -> (lr : Int) < en -> 0 < x.size -> n < lr -> ks.length < l.length -> (∃ r, fm l en l.length (n + 1) = ks ++ lr :: r) -> bH.loop o = some L1 ->
   (∀ bJ, I (ks ++ [lr]) bJ -> x.size <= 100000 -> bJ.loop o = some L1 -> q.n bJ) -> (∀ bJ, J bJ -> bJ.loop o = some L1 -> q.r bJ) -> B (.int .i64 (lr : Nat)) q bH)
 (fin : ∀ ks bH o L, ks = fm l en l.length (n + 1) -> I ks bH -> bH.loop o = some L -> Kn (bH.del o))
 (XR : ∀ bH o L, J bH -> bH.loop o = some L -> Kr (bH.del o))
 (h0 : I [] U) : rT K 1 (.func (.func 155) [] [.box bn 0, .box be 0, .box bt 0]) U (fun v q U => q.EI (fun U => B v q U) U) Kn Ke Kr Kp := by
 refine ⟨by kernel_rfl, fun o L ho HR RO Y => ?_⟩
 have I1 := lX _ _ o L h0 ho
 have L8 := wj (U := U) (b := o) (L := L)
 generalize U.new o (.loop L) = bH at *
 refine JL ?_
 unfold JK
 rw [fe (LS _ _ I1).1, dU, bB, c8]
 refine ⟨aX (by omega) (by omega), ?_⟩
 refine ⟨fun m v0 v2 v3 v5 ad => ∃ ks f p, m = l.length - p /\ v0 = .oy o /\ v2 = .box be 0 /\ v3 = .box bt 0 /\ v5 = .int .i64 (p : Nat) /\ n < p /\ p <= 300000 /\ l.length - p <= f /\ ks ++ fm l en f p = fm l en l.length (n + 1) /\ I ks ad /\ ∃ L1, ad.loop o = some L1 /\ L1.st .ready none = L /\ L1.state = .ready /\ L1.ee = none,
  ⟨_, [], l.length, n + 1, rfl, rfl, rfl, rfl, by simp, by omega, by omega, by omega, rfl, I1, L, L8, by cases L; simp_all [ey.st], HR, RO⟩, ?_⟩
 clear I1 L8
 rintro m v0 v2 v3 v5 bJ ⟨ks, f, p, rfl, rfl, rfl, rfl, rfl, hnp, hp3, hf, kD, I2, L1, oc, eL, Cd, Aa⟩
 obtain ⟨k1, k2, k3⟩ := LS _ _ I2
 rw [fe k2, dU, bB]
 simp only [bP, ah, aW, aM]
 have stop : fm l en f p = [] -> al (I9 o Kn Ke Kr Kp) (.aN []) bJ := fun h => by
  rw [h, iI] at kD
  refine al.mk ⟨L1, oc, by rw [Cd]; simp, ?_⟩
  rw [Aa]
  exact fin ks bJ o L1 kD I2 oc
 by_cases aK : (p : Int) < en
 · have mM : p < l.length := by omega
   obtain ⟨x, hx⟩ : ∃ x, l[p]? = some x := ⟨l[p], by simp [mM]⟩
   cases f with
   | zero => omega
   | succ f =>
   have Er : fm l en (f + 1) p = if 0 < x.size then p :: fm l en f (p + x.size.toNat) else [] := by
    simp only [fm, hx, aK, true_and]
   simp only [aK, cX, fK, bZ, aC, aU, cD, oD k3, dU, fP, kP]
   refine sU hv hx fun r => ?_
   simp only [cQ, aC, kP, bD, jh, List.drop, mY, fP, eO, aJ, if_true, ah, bE]
   refine ⟨fun hs => ?_, fun hs => ?_⟩
   · rw [if_pos hs] at Er
     simp only [fo, xq]
     refine Y _ _ _ L1 rfl oc eL ?_
     refine ⟨L1, oc, Cd, ?_⟩
     have I3 := NT _ _ o L1 { L1 with state := .busy } I2 oc
     have NO : ks.length < l.length := by
      have := wX l en l.length (n + 1)
      rw [<- kD, Er] at this
      simp at this; omega
     refine body ks p x _ o { L1 with state := .busy } _ I3 hx aK hs hnp NO ⟨_, by rw [<- kD, Er]⟩ fp (fun c7 I4 wc vV => ?_) fun c7 ZJ vV => ?_
     · refine ⟨_, vV, ?_⟩
       have I5 := NT _ _ o _ { L1 with state := .ready, ee := none } I4 vV
       obtain ⟨j1, j2, j3⟩ := LS _ _ I5
       simp only [bz, dt, ah, cq, a7, aU, cD]
       rw [fe j3, dU, bB]
       refine Hc hv hx fun r => ?_
       simp only [cQ, ah, bD, jh, List.drop, ox, bB, c8]
       refine ⟨aX (by omega) (by omega), _, ?_, ks ++ [p], f, p + x.size.toNat, rfl, rfl, rfl, rfl, ?_, by omega, by omega, by omega, ?_, I5, _, fp, by rw [<- eL]; rfl, rfl, rfl⟩
       · omega
       · congr 1; omega
       · rw [<- kD, Er]; simp
     · refine ⟨_, vV, ?_⟩
       simp only [bz, dt, ah, dR, bq]
       refine al.mk ⟨_, fp, by simp, ?_⟩
       exact XR _ o _ (hJ _ o _ _ ZJ vV) fp
   · rw [if_neg hs] at Er
     exact stop Er
 · simp only [aK, dz, show (false == true) = false from rfl, cc, aJ, bu, if_false, ah, a7]
   refine stop ?_
   cases f with
   | zero => rfl
   | succ f =>
     simp only [fm]
     split
     · rw [if_neg (fun h => aK h.1)]
     · rfl
end Go.Rip
namespace Go.Rip
open Go.Proofs Go.RowKit
def lE (ay U : St) (v : AV) (es : List Int) : Prop := (es = [] /\ v = .ag) \/ ∃ b gU, v = .ms b 0 es.length 1 3 /\ U.box b = some (es.map (.int .i64) ++ gU) /\ ay.live b = none
section
variable {ay U : St} {R : cu -> St -> Prop} {K' : AV -> St -> Prop} {Kp : AV -> St -> Prop}
theorem Oe {b : Nat} {n a : Int} (hb : U.box b = some [.int .i64 n]) (h : R (.ret (.bool (decide (a <= n)))) U) : ae K 133 [.int .i64 a, .box b 0] U R := by
 refine Jx ?_
 unfold Jw
 rw [fe hb, dU, bB]
 simp only [jU, ah]
 exact al.mk h
theorem Wg {b : Nat} {L : List AV} {es : List Int} {gU : List AV} (h : U.box b = some L) (hL : L = es.map (.int .i64) ++ gU) {i n : Nat} (hi : i < es.length) (hn : i < n) (hk : K' (.int .i64 es[i]) U) :
 (aP (some (3, 1)) none (.ms b 0 n 1 3) (.int .i64 (i : Nat))).wp K U (fun v U => (aq (some (false, 1)) v U).wp K U K' Kp) Kp := by
 rw [Bg]
 refine ⟨⟨by omega, by omega, rfl⟩, ?_⟩
 rw [fe h]
 have : L.drop (0 + (i : Int).toNat * 1) = .int .i64 es[i] :: ((es.map (AV.int .i64)).drop (i + 1) ++ gU) := by
  rw [hL, eG, Nat.mul_one, cD, List.drop_append_of_le_length (by simp; omega), gp (by simpa using hi)]
  simp
 rw [this, bB]
 exact hk
theorem Ag {b bn : Nat} {es : List Int} {gU : List AV} {n : Int} (hb : U.box b = some (es.map (.int .i64) ++ gU)) (hn : U.box bn = some [.int .i64 n]) (hl : es.length <= 100000)
 (h : (∃ k, k < es.length /\ (es.take k).all (fun a => decide (n < a)) = true /\ (∃ hk : k < es.length, es[k] <= n) /\ R (.ret (.int .i64 (k : Nat))) U) \/ (es.all (fun a => decide (n < a)) = true /\ R (.ret (.int .i64 (-1))) U)) :
 ae K 210 [.ms b 0 es.length 1 3, .func (.func 133) [] [.box bn 0]] U R := by
 refine AE ?_
 unfold C2
 simp only [Iw, ah]
 refine ⟨fun m v0 v1 v7 v8 ad => ∃ i : Nat, m = es.length - i /\ i <= es.length /\ v0 = .ms b 0 es.length 1 3 /\ v1 = .func (.func 133) [] [.box bn 0] /\ v7 = .int .i64 es.length /\ v8 = .int .i64 i /\ ad = U /\ (es.take i).all (fun a => decide (n < a)) = true, ⟨_, 0, rfl, by omega, rfl, rfl, rfl, rfl, rfl, by simp⟩, ?_⟩
 rintro m v0 v1 v7 v8 ad ⟨i, rfl, hi, rfl, rfl, rfl, rfl, rfl, bK⟩
 simp only [bP, ah, bE]
 have xK : ∀ (k : Nat) (hk : k < es.length), (es.take i).all (fun a => decide (n < a)) = true -> k < i -> n < es[k] := fun k hk ha Es => by
  rw [eh] at ha
  have : es[k] ∈ es.take i := by
   rw [List.mem_iff_getElem]
   exact ⟨k, by simp; omega, by simp⟩
  simpa using ha _ this
 refine ⟨fun aK => ?_, fun hY => ?_⟩
 · have aK : i < es.length := by omega
   refine Wg hb rfl aK aK ?_
   simp only [fo, show dj K.P 133 = true by kernel_rfl, if_true, hP, gH, jh]
   refine Oe hn ?_
   simp only [bz, bE]
   refine ⟨fun hle => ?_, fun rC => ?_⟩
   · rcases h with ⟨k, hk, pq, ⟨_, eK⟩, hR⟩ | ⟨hA, _⟩
     · have : k = i := by
        rcases Nat.lt_trichotomy k i with h | h | h
        · have := xK k hk bK h; omega
        · exact h
        · rw [eh] at pq
          have hm : es[i] ∈ es.take k := by
           rw [List.mem_iff_getElem]
           exact ⟨i, by simp; omega, by simp⟩
          have := pq _ hm
          simp at this; omega
       subst this
       exact al.mk hR
     · rw [eh] at hA
       have := hA es[i] (zq aK)
       simp at this; omega
   · rw [c8]
     refine ⟨aX (by omega) (by omega), es.length - (i + 1), by omega, i + 1, rfl, by omega, rfl, rfl, rfl, by simp, rfl, ?_⟩
     rw [sW, kL aK, List.all_append, bK]
     simp; omega
 · have hi : i = es.length := by omega
   subst hi
   rw [qS] at bK
   rcases h with ⟨k, hk, pq, ⟨_, eK⟩, hR⟩ | ⟨_, hR⟩
   · rw [eh] at bK
     have := bK es[k] (zq hk)
     simp at this; omega
   · exact al.mk hR
theorem zS : ∀ (es : List Int) (n : Int), (∃ k, ∃ hk : k < es.length, (es.take k).all (fun a => decide (n < a)) = true /\ es[k] <= n) \/ es.all (fun a => decide (n < a)) = true
 | [], n => .inr rfl
 | a :: es, n => by
   by_cases ha : n < a
   · rcases zS es n with ⟨k, hk, h1, h2⟩ | h
     · exact .inl ⟨k + 1, by simp; omega, by simp [ha, h1], by simpa using h2⟩
     · exact .inr (by simp [ha, h])
   · exact .inl ⟨0, by simp, by simp, by simp; omega⟩
theorem HB {v : AV} {bn : Nat} {es : List Int} {n : Int} (hv : lE ay U v es) (hn : U.box bn = some [.int .i64 n]) (hl : es.length <= 100000) (hE : cm ay U) (xL : ∀ b, ay.live b = none -> v = .ms b 0 es.length 1 3 -> bn ≠ b)
 (h : ∀ ad v', lE ay ad v' (es.filter (n < ·)) -> cm ay ad -> (∀ b x, (∀ k, v ≠ .ms b 0 k 1 3) -> U.box b = some x -> ad.box b = some x) -> (∀ b k, v' = .ms b 0 k 1 3 -> v = .ms b 0 es.length 1 3) -> R (.ret v') ad) : ae K 132 [v, .func (.func 133) [] [.box bn 0]] U R := by
 refine Jv ?_
 unfold Ju
 rcases hv with ⟨rfl, rfl⟩ | ⟨b, gU, rfl, hb, tA⟩
 ·
  have XU : ae K 210 [.ag, .func (.func 133) [] [.box bn 0]] U (ar (fun v10 U =>
   (av .eql (BT.mk false false false none false) true v10 (AV.int .i64 (-1))).wp K U (fun v12 U => az v12 (al R .ag U) False) (aa R)) (aa R)) := by
   refine AE ?_
   unfold C2
   simp only [len_nil, ah]
   refine ⟨fun m v0 v1 v7 v8 ad => v7 = .int .i64 0 /\ v8 = .int .i64 0 /\ ad = U, ⟨0, rfl, rfl, rfl⟩, ?_⟩
   rintro m v0 v1 v7 v8 ad ⟨rfl, rfl, rfl⟩
   simp only [bP, ah, show decide ((0 : Int) < 0) = false from rfl, a7]
   refine al.mk ?_
   simp only [bz, bl, ah, cX, bq]
   exact al.mk (h ad .ag (.inl ⟨rfl, rfl⟩) hE (fun _ _ _ h => h) (fun _ _ e => by cases e))
  refine XU.mono fun r ad hr => ?_
  cases r with
  | panic x => exact hr
  | ret x =>
    simp only [bz] at hr ⊢
    refine aA.wp_mono (fun v U hv => ?_) _ hr
    cases v <;> simp only [az] at hv ⊢
    exact ⟨hv.1, fun e => (hv.2 e).elim⟩
 · have BU : bn ≠ b := xL b tA rfl
   rcases zS es n with ⟨k, hk, pq, eK⟩ | bK
   · refine Ag hb hn hl (.inl ⟨k, hk, pq, ⟨hk, eK⟩, ?_⟩)
     have hkn : ¬ ((k : Nat) : Int) = -1 := by omega
     simp only [bz, bl, ah, hkn, dz, a7, c8]
     refine ⟨aX (by omega) (by omega), ?_⟩
     have NL : (es.take (k + 1)).filter (n < ·) = es.take k := by
      rw [sW, kL hk, List.filter_append]
      have h1 : (es.take k).filter (n < ·) = es.take k := by
       rw [List.filter_eq_self]
       intro a ha
       rw [eh] at pq
       exact pq a ha
      rw [h1]
      have : ¬ n < es[k] := by omega
      simp [this]
     refine ⟨fun m v0 v1 v5 v6 ad => ∃ (i j : Nat) (arr : List AV), m = es.length - j /\ v0 = .ms b 0 es.length 1 3 /\ v1 = .func (.func 133) [] [.box bn 0] /\ v5 = .int .i64 (i : Nat) /\ v6 = .int .i64 (j : Nat) /\ j <= es.length /\ i < j /\ ad.box b = some arr /\ arr.take i = ((es.take j).filter (n < ·)).map (.int .i64) /\ i = ((es.take j).filter (n < ·)).length /\ arr.drop j = (es.drop j).map (.int .i64) ++ gU /\ arr.length = es.length + gU.length /\ (∀ c, c ≠ b -> ad.live c = U.live c),
      ⟨_, k, k + 1, es.map (.int .i64) ++ gU, rfl, rfl, rfl, rfl, by simp, by omega, by omega, hb, ?_, ?_, ?_, by simp, fun _ _ => rfl⟩, ?_⟩
     · rw [NL, List.take_append_of_le_length (by simp; omega), <- List.map_take]
     · rw [NL]; simp; omega
     · rw [List.drop_append_of_le_length (by simp; omega), <- List.map_drop]
     · rintro m v0 v1 v5 v6 ad ⟨i, j, arr, rfl, rfl, rfl, rfl, rfl, hj, et, cZ, BQ, RP, WB, ZO, qf⟩
       simp only [Iw, ah, bP, bE]
       refine ⟨fun aK => ?_, fun hY => ?_⟩
       · have aK : j < es.length := by omega
         intro jj wa
         have WU : ad.box bn = some [.int .i64 n] := by rw [fZ (qf bn BU)]; exact hn
         rw [Bg]
         refine ⟨⟨by omega, by omega, rfl⟩, ?_⟩
         rw [fe cZ]
         obtain ⟨rr, hd⟩ : ∃ rr, arr.drop (0 + (j : Int).toNat * 1) = .int .i64 es[j] :: rr := by
          rw [eG, Nat.mul_one, cD, WB, gp aK, dN]
          exact ⟨_, rfl⟩
         rw [hd, bB]
         simp only [fo, show dj K.P 133 = true by kernel_rfl, if_true, hP, gH, jh]
         refine Oe WU ?_
         have pA : es.take (j + 1) = es.take j ++ [es[j]] := by rw [sW, kL aK]; rfl
         have vY : arr.drop (j + 1) = (es.drop (j + 1)).map (.int .i64) ++ gU := by
          rw [<- List.drop_drop, WB, gp aK, dN]; rfl
         simp only [bz, dt, ah]
         by_cases hle : es[j] <= n
         · simp only [hle, cX, cq, a7]
           refine wa _ _ _ _ _ ?_
           simp only [c8]
           refine ⟨aX (by omega) (by omega), es.length - (j + 1), by omega, i, j + 1, arr, rfl, rfl, rfl, rfl, by simp, by omega, by omega, cZ, ?_, ?_, vY, ZO, qf⟩
           · rw [pA, List.filter_append, BQ]
             have : ¬ n < es[j] := by omega
             simp [this]
           · rw [pA, List.filter_append]
             have : ¬ n < es[j] := by omega
             simp only [List.filter_cons, this, dz, bu, if_false, List.filter_nil, iI]
             exact RP
         · simp only [hle, dz, dR, bq]
           rw [Bg]
           refine ⟨⟨by omega, by omega, rfl⟩, ?_⟩
           rw [cF cZ]
           refine ⟨⟨rfl, rfl, by simp; omega⟩, ?_⟩
           rw [c8]
           refine ⟨aX (by omega) (by omega), ?_⟩
           refine wa _ _ _ _ _ ?_
           simp only [c8]
           have EB : aw arr (0 + (i : Int).toNat * 1) (au (.int .i64 es[j])) = arr.take i ++ [.int .i64 es[j]] ++ arr.drop (i + 1) := by
            simp [aw]
           have qe : (arr.take i).length = i := by simp; omega
           refine ⟨aX (by omega) (by omega), es.length - (j + 1), by omega, i + 1, j + 1, _, rfl, rfl, rfl, by simp, by simp, by omega, by omega, aR, ?_, ?_, ?_, ?_, fun c hc => by rw [dL, if_neg hc]; exact qf c hc⟩
           · rw [EB, List.take_append_of_le_length (by simp; omega), qR (by simp; omega), BQ, pA, List.filter_append]
             have : n < es[j] := by omega
             simp [this]
           · rw [pA, List.filter_append]
             have : n < es[j] := by omega
             simp only [List.filter_cons, this, cX, if_true, List.filter_nil, ep, nc, uR]
             omega
           · rw [EB, <- vY]
             rw [List.drop_append, List.drop_eq_nil_of_le (by simp; omega), gH, List.drop_drop]
             congr 1
             simp
             omega
           · rw [EB]; simp; omega
       · have hje : j = es.length := by omega
         subst hje
         rw [qS] at BQ RP
         simp only [dh, cJ, wp_cond, ah]
         refine ⟨⟨by omega, by omega, by omega, by omega, trivial⟩, ?_⟩
         simp only [xz, cZ, wp_cond, iB]
         refine ⟨⟨trivial, by simp; omega⟩, ⟨by omega, by omega, by omega, by simp, trivial⟩, ?_⟩
         refine al.mk (h _ _ (.inr ⟨b, (aw arr (0 + (i : Int).toNat * 1) (bw ((es.length : Int).toNat - (i : Int).toNat) [.int .i64 0])).drop i, ?_, ?_, tA⟩) ?_ ?_ ?_)
         · simp [RP]
         · rw [aR]
           congr 1
           have hz : (bw (es.length - i) [AV.int .i64 0]).length = es.length - i := by simp [ic]
           simp only [eG, Nat.mul_one, cD]
           conv => lhs; rw [<- List.take_append_drop i (aw arr i _)]
           congr 1
           simp only [aw, kf]
           rw [List.take_append_of_le_length (by simp; omega), qR (by simp; omega)]
           exact BQ
         · refine cm.set (fun c x e => ?_) tA
           by_cases hc : c = b
           · subst hc; rw [tA] at e; cases e
           · rw [qf c hc]; exact hE c x e
         · intro c x hc hx
           have WD : c ≠ b := fun e => hc es.length (by rw [e])
           rw [aE WD, fZ (qf c WD)]; exact hx
         · intro c k e
           simp only [AV.ms.injEq] at e
           rw [e.1]
   · refine Ag hb hn hl (.inr ⟨bK, ?_⟩)
     simp only [bz, bl, ah, cX, bq]
     have hf : es.filter (n < ·) = es := by
      rw [List.filter_eq_self]
      intro a ha
      rw [eh] at bK
      exact bK a ha
     exact al.mk (h U _ (by rw [hf]; exact .inr ⟨b, gU, rfl, hb, tA⟩) hE (fun _ _ _ h => h) (fun b' k e => by cases e; rfl))
end
end Go.Rip
namespace Go.Rip
open Go.Proofs Go.RowKit
section
variable {ay U : St} {R : cu -> St -> Prop} {K' : AV -> St -> Prop} {Kp : AV -> St -> Prop} {v : AV} {es : List Int}
theorem LA (h : lE ay U v es) : bU (some false) v = .val (.int .i64 es.length) := by
 rcases h with ⟨rfl, rfl⟩ | ⟨b, gU, rfl, _, _⟩ <;> rfl
theorem Lz {bx : Nat} {a : Int} (hv : lE ay U v es) (hy : U.box bx = some [.int .i64 a]) (E : cm ay U) (hl : es.length <= 100000) (h : ∀ ad v', lE ay ad v' (es ++ [a]) -> cm ay ad -> K' v' ad) :
 (dS (some (3, 1)) true v (.ms bx 0 1 1 3) U).wp K U K' Kp := by
 have F2 : oF U (.ms bx 0 1 1 3) = some (1, [.int .i64 a]) := by simp [oF, hy]
 rcases hv with ⟨rfl, rfl⟩ | ⟨b, gU, rfl, hb, tA⟩
 · simp only [dS, F2, wp_cond]
   refine ⟨rfl, by omega, fun b hf => ?_⟩
   exact h _ _ (.inr ⟨b, [], rfl, by rw [show U.oz none = U from rfl]; exact aD, E.fresh hf.1⟩) (E.new hf)
 · refine Dj hb F2 ⟨rfl, by simp, by omega⟩ fun b' hf => ?_
   refine h _ _ (.inr ⟨b', [], by simp, ?_, ?_⟩) ((E.del tA).new hf)
   · rw [aD]; simp
   · have hd := hf.1
     by_cases e : b' = b
     · rw [e]; exact tA
     · rw [nF, if_neg e] at hd; exact E.fresh hd
end
theorem FM {v : AV} {l : List Nd} (hv : eN v l.length (bm l)) (hc : closed v = true) (hl : l.length <= 100000) (h0 : l ≠ []) (hs : ∀ x ∈ l, 0 <= x.size /\ x.size <= 100000) (uw : jF l <= l.length) : Pure K 69 [.agg [v]] (.bool (pj l)) := by
 refine Pure.of (by simp [bS, closed, hc]) rfl (fun U => rfl) fun R hR => ?_
 refine MJ ?_
 unfold OE
 rw [eC rfl]
 intro b1 fC
 have m1 : ((br ⟨.e, 0⟩).new b1 (.box (au (.agg [v])))).box b1 = some [v] := aD
 generalize (br _).new b1 _ = ay at *
 clear fC
 simp only [aU, ah, cD]
 rw [fe m1, dU, bB, hv.len, ah]
 refine ⟨fun m v1 v2 v3 v8 v9 v10 ad => ∃ (i : Nat) (es : List Int), m = l.length - i /\ v1 = .box b1 0 /\ v2 = .bool false /\ v8 = v /\ v9 = .int .i64 l.length /\ v10 = .int .i64 (i : Nat) /\ i <= l.length /\ lE ay ad v3 es /\ es.length <= i /\ gx (l.drop i) i es = gx l 0 [] /\ cm ay ad,
  ⟨_, 0, [], rfl, rfl, rfl, rfl, rfl, rfl, by omega, .inl ⟨rfl, rfl⟩, by simp, rfl, cm.refl _⟩, ?_⟩
 rintro m v1 v2 v3 v8 v9 v10 bH ⟨i, es, rfl, rfl, rfl, rfl, rfl, rfl, hi, uq, RZ, hg, E1⟩
 simp only [bP, ah, bE]
 refine ⟨fun aK => ?_, fun hY => ?_⟩
 · have aK : i < l.length := by omega
   obtain ⟨x, hx⟩ : ∃ x, l[i]? = some x := ⟨l[i], by simp [aK]⟩
   have xO : l.drop i = x :: l.drop (i + 1) := by
    rw [gp aK]
    have := (dx.1 hx).2
    rw [this]
   rw [xO, gx] at hg
   refine Hc hv hx fun r => ?_
   rw [zF]
   refine ⟨by simp [bD], ?_⟩
   have BR : (bD x ++ r).take 6 = bD x := by simp [bD]
   rw [BR, cw]
   intro b4 kB
   rw [cw]
   intro b5 HT
   have m4 : (bH.new b4 (.box [.int .i64 0])).box b4 = some [.int .i64 0] := aD
   have Xk := HT.cn m4
   have f4 := E1.fresh kB.1
   have E2 := E1.new kB (x := .box [.int .i64 0])
   have LX : lE ay (bH.new b4 (.box [.int .i64 0])) v3 es /\ (∀ b, v3 = .ms b 0 es.length 1 3 -> b4 ≠ b) := by
    rcases uq with h | ⟨b, gU, rfl, h2, h3⟩
    · exact ⟨.inl h, fun b e => by rw [h.2] at e; cases e⟩
    · have := kB.cn h2
      exact ⟨.inr ⟨b, gU, rfl, by rw [jt this]; exact h2, h3⟩, fun b' e => by cases e; exact this.symm⟩
   obtain ⟨LX, L0⟩ := LX
   clear uq
   generalize bH.new b4 (.box [.int .i64 0]) = bJ at *
   have m5 : (bJ.new b5 (.box [AV.int .u8 0, AV.str [], AV.int .i64 0, AV.int .i64 0, AV.int .i64 0, AV.int .i64 0])).box b5 = some [AV.int .u8 0, AV.str [], AV.int .i64 0, AV.int .i64 0, AV.int .i64 0, AV.int .i64 0] := aD
   have f5 := E2.fresh HT.1
   have E3 := E2.new HT (x := .box [AV.int .u8 0, AV.str [], AV.int .i64 0, AV.int .i64 0, AV.int .i64 0, AV.int .i64 0])
   have m4' := (bj HT (x := .box [AV.int .u8 0, AV.str [], AV.int .i64 0, AV.int .i64 0, AV.int .i64 0, AV.int .i64 0])).bf m4
   have LY : lE ay (bJ.new b5 (.box [AV.int .u8 0, AV.str [], AV.int .i64 0, AV.int .i64 0, AV.int .i64 0, AV.int .i64 0])) v3 es /\ (∀ b, v3 = .ms b 0 es.length 1 3 -> b5 ≠ b) := by
    rcases LX with h | ⟨b, gU, rfl, h2, h3⟩
    · exact ⟨.inl h, fun b e => by rw [h.2] at e; cases e⟩
    · have := HT.cn h2
      exact ⟨.inr ⟨b, gU, rfl, by rw [jt this]; exact h2, h3⟩, fun b' e => by cases e; exact this.symm⟩
   obtain ⟨LY, Ss⟩ := LY
   generalize bJ.new b5 (.box [AV.int .u8 0, AV.str [], AV.int .i64 0, AV.int .i64 0, AV.int .i64 0, AV.int .i64 0]) = c7 at *
   rw [cF m4']
   refine ⟨⟨rfl, rfl, by simp⟩, ?_⟩
   rw [cF (show (c7.set b4 _).box b5 = some _ by rw [aE Xk.symm]; exact m5)]
   refine ⟨⟨rfl, rfl, by simp [bD]⟩, ?_⟩
   have E4 := (E3.set f4 (x := .box (aw [.int .i64 0] 0 (au (.int .i64 (i : Nat)))))).set f5 (x := .box (aw [AV.int .u8 0, AV.str [], AV.int .i64 0, AV.int .i64 0, AV.int .i64 0, AV.int .i64 0] 0 (au (.agg (bD x)))))
   have g4 : ((c7.set b4 (.box (aw [.int .i64 0] 0 (au (.int .i64 (i : Nat)))))).set b5 (.box (aw [AV.int .u8 0, AV.str [], AV.int .i64 0, AV.int .i64 0, AV.int .i64 0, AV.int .i64 0] 0 (au (.agg (bD x)))))).box b4 = some [.int .i64 (i : Nat)] := by
    rw [aE Xk, aR]; rfl
   have g5 : ((c7.set b4 (.box (aw [.int .i64 0] 0 (au (.int .i64 (i : Nat)))))).set b5 (.box (aw [AV.int .u8 0, AV.str [], AV.int .i64 0, AV.int .i64 0, AV.int .i64 0, AV.int .i64 0] 0 (au (.agg (bD x)))))).box b5 = some (bD x) := by
    rw [aR]; rfl
   have R0 : lE ay ((c7.set b4 (.box (aw [.int .i64 0] 0 (au (.int .i64 (i : Nat)))))).set b5 (.box (aw [AV.int .u8 0, AV.str [], AV.int .i64 0, AV.int .i64 0, AV.int .i64 0, AV.int .i64 0] 0 (au (.agg (bD x)))))) v3 es := by
    rcases LY with h | ⟨b, gU, rfl, h2, h3⟩
    · exact .inl h
    · exact .inr ⟨b, gU, rfl, by rw [aE (Ss b rfl).symm, aE (L0 b rfl).symm]; exact h2, h3⟩
   generalize (c7.set b4 (.box (aw [.int .i64 0] 0 (au (.int .i64 (i : Nat)))))).set b5 (.box (aw [AV.int .u8 0, AV.str [], AV.int .i64 0, AV.int .i64 0, AV.int .i64 0, AV.int .i64 0] 0 (au (.agg (bD x))))) = cH at *
   refine HB R0 g4 (by omega) E4 (fun b _ e => L0 b e) fun dy v' R1 E5 hk5 _ => ?_
   have oU : ∀ b y, b4 = b \/ b5 = b -> cH.box b = some y -> dy.box b = some y := fun b y hb hy => by
    refine hk5 b y (fun k e => ?_) hy
    rcases R0 with h | ⟨b', gU, rfl, h2, h3⟩
    · rw [h.2] at e; cases e
    · simp only [AV.ms.injEq] at e
      rcases hb with rfl | rfl
      · exact L0 b' rfl e.1.symm
      · exact Ss b' rfl e.1.symm
   have Wr := oU b4 _ (.inl rfl) g4
   have Ws := oU b5 _ (.inr rfl) g5
   simp only [bz, LA R1, ah, eO, bE]
   have rB : (es.filter ((i : Int) < ·)).length <= es.length := List.length_filter_le _ _
   refine ⟨fun rC => ?_, fun hle => ?_⟩
   · rw [if_pos (by omega)] at hg
     refine al.mk ?_
     have : pj l = true := by simp [pj, <- hg]
     rw [this] at hR
     exact hR _
   · rw [if_neg (by omega)] at hg
     have EC := hs x (fS hx)
     rw [fe Wr, dU, bB]
     simp only [aU, ah, cD]
     rw [fe Ws]
     simp only [bD, List.drop, bB, c8]
     refine ⟨aX (by omega) (by omega), ?_⟩
     rw [AL]
     refine ⟨by omega, ?_⟩
     rw [eD (o := 0) (s := 1) rfl]
     refine ⟨⟨rfl, rfl, by simp [bw]⟩, ?_⟩
     rw [Ff]
     refine ⟨rfl, fun bx zX => ?_⟩
     have X6 : lE ay (dy.new bx (.box (aw (bw 1 [AV.int .i64 0]) 0 (au (.int .i64 ((i : Int) + x.size)))))) v' (es.filter ((i : Int) < ·)) := by
      rcases R1 with h | ⟨b', gU, rfl, h2, h3⟩
      · exact .inl h
      · exact .inr ⟨b', gU, rfl, by rw [jt (zX.cn h2)]; exact h2, h3⟩
     refine Lz X6 (by rw [aD]; rfl) (E5.new zX) (by omega) fun gz v7 X7 E7 => ?_
     refine ⟨aX (by omega) (by omega), l.length - (i + 1), by omega, i + 1, _, rfl, rfl, rfl, rfl, rfl, by simp, by omega, X7, by simp; omega, hg, E7⟩
 · have hi : i = l.length := by omega
   subst hi
   rw [List.drop_length] at hg
   have HY : gx l 0 [] = false := hg.symm
   have rC : pj l = decide (24 < (fm l (jF l) l.length 1).length) := by simp [pj, HY]
   rw [rC] at hR
   rw [cw]
   intro b6 nv
   have m6 : (bH.new b6 (.box [.int .i64 0])).box b6 = some [.int .i64 0] := aD
   have SO := (E1.new nv (x := .box [.int .i64 0])).bf m1
   have n16 := nv.cn (E1.bf m1)
   generalize bH.new b6 (.box [.int .i64 0]) = bJ at *
   rw [cF m6]
   refine ⟨⟨rfl, rfl, by simp⟩, ?_⟩
   have Au : (bJ.set b6 (.box (aw [.int .i64 0] 0 (au (.int .i64 0))))).box b6 = some [.int .i64 (([] : List Nat).length : Nat)] := by rw [aR]; rfl
   have YA : (bJ.set b6 (.box (aw [.int .i64 0] 0 (au (.int .i64 0))))).box b1 = some [v8] := by rw [aE n16]; exact SO
   generalize bJ.set b6 (.box (aw [.int .i64 0] 0 (au (.int .i64 0)))) = c7 at *
   rw [nZ YA]
   refine ⟨by simp, ?_⟩
   refine pc [v8] (by simp [wO, hv.cC, aw]) ?_
   cases l with
   | nil => exact absurd rfl h0
   | cons x0 l =>
   have hx0 := hs x0 (by simp)
   refine Cz (n := 0) (x := x0) hv rfl (aX (by simp; omega) (by simp; omega)) fun bn be bt cH d1 d2 d3 f1 f2 f3 k1 k2 k3 e4 => ?_
   have m6n := e4.bf Au
   have en : (((0 : Nat) : Int) + x0.size) = jF (x0 :: l) := by simp [jF]
   rw [en] at k2
   have nn : bn ≠ b6 := fun e => by rw [e] at f1; exact bR Au f1
   have ne : be ≠ b6 := fun e => by rw [e] at f2; exact bR Au f2
   have nt : bt ≠ b6 := fun e => by rw [e] at f3; exact bR Au f3
   refine yl (fun ks U => U.box b6 = some [.int .i64 (ks.length : Nat)] /\ U.box bn = some [.int .i64 ((0 : Nat) : Int)] /\ U.box be = some [.int .i64 (jF (x0 :: l))] /\ U.box bt = some [v8] /\ True) (fun _ => False) hv (by simp) (by omega) uw
    (fun ks U h => h.2.imp id fun h => h.imp id fun h => h.1) (fun ks U o L L' h hL => ?_) (fun ks U o L h ho => ?_) (fun _ _ _ _ h => h.elim) (fun ks lr x dy o L1 q hI hx aK jy hnk NO _ hL hn hr => ?_) (fun ks dy o L kD hI hL => ?_) (fun _ _ _ h => h.elim) ⟨m6n, k1, k2, k3, trivial⟩
   · exact ⟨by rw [aE (cz h.1 hL)]; exact h.1, by rw [aE (cz h.2.1 hL)]; exact h.2.1, by rw [aE (cz h.2.2.1 hL)]; exact h.2.2.1, by rw [aE (cz h.2.2.2.1 hL)]; exact h.2.2.2.1, h.2.2.2.2⟩
   · have e := bj ho (x := .loop L)
     exact ⟨e.bf h.1, e.bf h.2.1, e.bf h.2.2.1, e.bf h.2.2.2.1, h.2.2.2.2⟩
   · obtain ⟨i1, i2, i3, i4, i5⟩ := hI
     rw [fe i1, dU, bB, c8]
     refine ⟨aX (by omega) (by omega), ?_⟩
     rw [cF i1]
     refine ⟨⟨rfl, rfl, by simp⟩, ?_⟩
     refine hn _ ⟨by rw [aR]; simp [aw], by rw [aE nn]; exact i2, by rw [aE ne]; exact i3, by rw [aE nt]; exact i4, trivial⟩ (hs x (fS hx)).2 (by rw [fE]; exact hL; rw [dL, if_neg (cz i1 hL).symm])
   · obtain ⟨i1, i2, i3, i4, i5⟩ := hI
     have i1' : (dy.del o).box b6 = some [.int .i64 (ks.length : Nat)] := by rw [iq (cz i1 hL)]; exact i1
     show (aq (some (false, 1)) (.box b6 0) (dy.del o)).wp K (dy.del o) _ _
     rw [fe i1', dU, bB]
     simp only [eO, ah]
     subst kD
     refine al.mk ?_
     have := hR (dy.del o)
     have e : decide ((24 : Int) < ((fm (x0 :: l) (jF (x0 :: l)) (x0 :: l).length (0 + 1)).length : Nat)) = decide (24 < (fm (x0 :: l) (jF (x0 :: l)) (x0 :: l).length 1).length) := by
      rw [nf]; simp only [dD, cD]; omega
     rw [e]; exact this
end Go.Rip
namespace Go.Rip
open Go.Proofs Go.RowKit
theorem Jd {U : St} {a b : Nat} {l : List AV} (h : b ≠ a) : (U.bN a l).live b = U.live b := by
 simp [St.bN, St.set, h]
theorem gr.bN {r : Nat} {U ad : St} {b : Nat} {l : List AV} (h : gr r U ad) (n : U.live b = none) : gr r U (ad.bN b l) := fun c y m e => by
 by_cases hc : c = b
 · subst hc; rw [n] at e; cases e
 · rw [Jd hc]; exact h c y m e
theorem dJ.scalar {a : AV} {ns : List Nd} (hk : dJ false [a] ns) : a.scalar = true := by
 generalize hb : false = b at hk
 generalize hl : [a] = la at hk
 cases hk with
 | mk _ _ => cases hl; rfl
 | nil => cases hl
 | cons _ _ => cases hb
section
variable {X : Rx} {r i : Nat} {U : St} {R : cu -> St -> Prop}
end
def dZ (l : List Nd) : AV := if l = [] then .ag else .vec l.length .gl (bm l)
end Go.Rip
