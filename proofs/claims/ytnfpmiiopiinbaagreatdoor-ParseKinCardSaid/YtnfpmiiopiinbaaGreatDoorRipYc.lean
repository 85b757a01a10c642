/- Lemmas for the proof: no conditions. -/
import Derived.Test.YtnfpmiiopiinbaaGreatDoorRipZz
import Derived.Test.YtnfpmiiopiinbaaGreatDoorRipYb
set_option linter.unusedVariables false
set_option linter.unusedSimpArgs false
set_option linter.loopingSimpArgs false
namespace Go.Rip
open Go.Proofs Go.RowKit
theorem xn {l : List Nd} : ∀ {ts : List Tre} {p : Nat}, hU l p ts -> ∀ i ∈ bR p ts, ∃ s, dT l i s
 | [], _, _, i, hi => by simp [bR] at hi
 | t :: ts, p, h, i, hi => by
   simp only [bR, dD] at hi
   rcases hi with rfl | hi
   · exact ⟨t, h.head⟩
   · exact xn h.tail i hi
theorem NY {l : List Nd} {n : Nat} {s : Tre} (h : dT l n s) : ∀ j ∈ fg l n, j < l.length := by
 intro j hj
 rw [pw h] at hj
 obtain ⟨s', c7⟩ := xn h.kids j hj
 have := c7.le
 have := s'.cP
 omega
section
variable {v : AV} {l : List Nd}
end
end Go.Rip
namespace Go.Rip
open Go.Proofs Go.RowKit
theorem nz : ∀ {ts : List Tre} {p k : Nat}, k ∈ bR p ts -> p <= k
 | [], p, k, h => by simp [bR] at h
 | t :: ts, p, k, h => by
   simp only [bR, dD] at h
   rcases h with rfl | h
   · exact cA _
   · have := nz h; omega
theorem xm : ∀ {ts : List Tre} {p k : Nat}, k ∈ bR p ts -> k < p + (Tre.a7 ts).length
 | [], p, k, h => by simp [bR] at h
 | t :: ts, p, k, h => by
   simp only [bR, dD] at h
   have := t.cP
   simp only [Tre.cb, eG]
   rcases h with rfl | h
   · omega
   · have := xm h; omega
theorem mF {l : List Nd} {i : Nat} {s : Tre} (h : dT l i s) : cq l i = s.flat.length := by
 obtain ⟨x, hx, _, hs, _⟩ := h.mK
 rw [lW hx]; omega
theorem xW {l : List Nd} : ∀ (N : Nat) (ts : List Tre) (p : Nat), (Tre.a7 ts).length <= N -> hU l p ts ->
 (∀ j, p <= j -> j < p + (Tre.a7 ts).length -> j + cq l j <= p + (Tre.a7 ts).length) /\ ∀ k ∈ bR p ts, ∀ j, p <= j -> j < k -> j + cq l j <= k
 | N, [], p, hN, h => ⟨fun j h1 h2 => by simp at h2; omega, fun k hk => by simp [bR] at hk⟩
 | 0, t :: ts, p, hN, h => by have := t.cP; simp only [Tre.cb, eG] at hN; omega
 | N + 1, t :: ts, p, hN, h => by
   have AN := jc t
   have lB := t.cP
   simp only [Tre.cb, eG] at hN ⊢
   have h1 := xW N t.kids (p + 1) (by omega) h.head.kids
   have h2 := xW N ts (p + t.flat.length) (by omega) h.tail
   have hp := mF h.head
   refine ⟨fun j a b => ?_, fun k hk j a b => ?_⟩
   · by_cases e : j = p
     · rw [e, hp]; omega
     · by_cases c : j < p + t.flat.length
       · have := h1.1 j (by omega) (by omega); omega
       · have := h2.1 j (by omega) (by omega); omega
   · simp only [bR, dD] at hk
     rcases hk with rfl | hk
     · omega
     · have iX := nz hk
       by_cases e : j = p
       · rw [e, hp]; omega
       · by_cases c : j < p + t.flat.length
         · have := h1.1 j (by omega) (by omega); omega
         · exact h2.2 k hk j (by omega) b
theorem JC {l : List Nd} {p i : Nat} : ∀ {m : Nat}, i <= m -> (∀ j, i < j -> j <= m -> j + cq l j <= p) -> (i = 0 \/ p < i + cq l i) -> mG l p m = i
 | 0, hi, h1, h2 => by simp [mG]; omega
 | m + 1, hi, h1, h2 => by
   rw [mG]
   by_cases e : i = m + 1
   · subst e
     rw [if_neg]
     rcases h2 with h2 | h2 <;> omega
   · rw [if_pos (h1 (m + 1) (by omega) (cA _))]
     exact JC (by omega) (fun j a b => h1 j a (by omega)) h2
theorem G6 {l : List Nd} {i k : Nat} {s : Tre} (h : dT l i s) (hk : k ∈ bR (i + 1) s.kids) : mG l k (k - 1) = i := by
 have iX := nz hk
 have aH := xm hk
 have AN := jc s
 refine JC (by omega) (fun j a b => ?_) (.inr ?_)
 · exact (xW _ s.kids (i + 1) (cA _) h.kids).2 k hk j (by omega) (by omega)
 · rw [mF h]; omega
theorem yh {t : Tre} {i k : Nat} (hi : i < t.flat.length) (hk : k < t.flat.length) : k ∈ fg t.flat i ↔ (k ≠ 0 /\ mG t.flat k (k - 1) = i) := by
 obtain ⟨⟨s, _, hs, _⟩, _⟩ := place t hi
 rw [pw hs]
 constructor
 · intro h
   have := nz h
   exact ⟨by omega, G6 hs h⟩
 · rintro ⟨h0, hu⟩
   obtain ⟨_, h⟩ := place t hk
   rcases h with h | ⟨i', s', _, c7, hm⟩
   · exact absurd h h0
   · have := G6 c7 hm
     rw [hu] at this
     subst this
     rw [dT.inj hs c7]; exact hm
theorem Bo {l : List Nd} : ∀ {ts : List Tre} {p : Nat}, hU l p ts -> ((bR p ts).map (cq l)).sum = (Tre.a7 ts).length
 | [], p, h => rfl
 | t :: ts, p, h => by
   simp only [bR, de, List.sum_cons, Tre.cb, eG]
   rw [mF h.head, Bo h.tail]
theorem G8 {l : List Nd} {i : Nat} {s : Tre} (h : dT l i s) : 1 + ((fg l i).map (cq l)).sum = cq l i := by
 rw [pw h, Bo h.kids, mF h, jc s]; omega
theorem tX : ∀ {ts : List Tre} {p : Nat}, (bR p ts).Nodup
 | [], p => List.nodup_nil
 | t :: ts, p => by
   simp only [bR, List.nodup_cons]
   refine ⟨fun h => ?_, tX⟩
   have := nz h
   have := t.cP
   omega
end Go.Rip
namespace Go.Rip
open Go.Proofs Go.RowKit
def seen (l : List Nd) (i : Nat) (ks : List Nat) (k : Nat) : Nat := if (k ≠ 0 /\ mG l k (k - 1) < i) \/ k ∈ ks then 1 else 0
def dH (l : List Nd) (i : Nat) (ks : List Nat) : List AV := (List.range l.length).map fun k => .int .i64 (seen l i ks k : Nat)
theorem tU (l : List Nd) (i : Nat) (ks : List Nat) : (dH l i ks).length = l.length := by simp [dH]
theorem Fq (l : List Nd) : bp l.length [AV.int .i64 0] = dH l 0 [] := by
 have : ∀ n, bp n [AV.int .i64 0] = List.replicate n (.int .i64 0) := fun n => by
  induction n with
  | zero => rfl
  | succ n ih => rw [bp, ih]; rfl
 rw [this]
 refine List.ext_getElem (by simp [dH]) fun j h1 h2 => ?_
 simp [dH, seen]
theorem vU {l : List Nd} {i k : Nat} {ks : List Nat} (h : k < l.length) : ∃ r, (dH l i ks).drop k = .int .i64 (seen l i ks k : Nat) :: r := by
 refine ⟨(dH l i ks).drop (k + 1), ?_⟩
 rw [fT (by rw [tU]; exact h)]
 simp [dH]
theorem HG {l : List Nd} {i k : Nat} {ks : List Nat} (h : k < l.length) : aB (dH l i ks) k [.int .i64 1] = dH l i (ks ++ [k]) := by
 have e : aB (dH l i ks) k [.int .i64 1] = (dH l i ks).set k (.int .i64 1) := by
  rw [List.set_eq_take_append_cons_drop, if_pos (by rw [tU]; exact h)]
  simp [aB]
 rw [e]
 refine List.ext_getElem (by simp [dH]) fun j h1 h2 => ?_
 rw [List.getElem_set]
 split
 · rename_i hj; subst hj
   simp [dH, seen]
 · rename_i hj
   simp only [dH, List.getElem_map, List.getElem_range, seen, fx, kO]
   have : ¬ j = k := fun h => hj h.symm
   simp [this]
theorem Fp {t : Tre} {i : Nat} (hi : i < t.flat.length) : dH t.flat i (fg t.flat i) = dH t.flat (i + 1) [] := by
 unfold dH
 refine List.map_congr_left fun k hk => ?_
 rw [List.mem_range] at hk
 have : seen t.flat i (fg t.flat i) k = seen t.flat (i + 1) [] k := by
  unfold seen
  simp only [yh hi hk]
  by_cases h0 : k = 0
  · simp [h0]
  · simp only [ne_eq, h0, not_false_eq_true, true_and, List.not_mem_nil, or_false]
    by_cases h1 : mG t.flat k (k - 1) < i + 1
    · rw [if_pos (by omega), if_pos h1]
    · rw [if_neg (by omega), if_neg h1]
 rw [this]
theorem B7 {l : List Nd} {p : Nat} : ∀ m, mG l p m <= m
 | 0 => cA _
 | m + 1 => by
   rw [mG]; split
   · have := B7 (l := l) (p := p) m; omega
   · exact cA _
theorem Fs {t : Tre} {i k : Nat} {ks r : List Nat} (hi : i < t.flat.length) (hk : k < t.flat.length) (he : fg t.flat i = ks ++ k :: r) : seen t.flat i ks k = 0 := by
 have hm : k ∈ fg t.flat i := by rw [he]; simp
 have hu := (yh hi hk).1 hm
 obtain ⟨⟨s, _, hs, _⟩, _⟩ := place t hi
 have hnd : (fg t.flat i).Nodup := by rw [pw hs]; exact tX
 rw [he, List.nodup_append] at hnd
 have fB : k ∉ ks := fun h => hnd.2.2 k h k (by simp) rfl
 unfold seen
 rw [if_neg]
 rintro (h | h)
 · omega
 · exact fB h
theorem ints_at {v5 : AV} {ks : List Nat} {c k : Nat} (hv : eS v5 ks.length (fM ks)) (hx : ks[c]? = some k) : ∃ r, ∀ e, aJ (some (e, 1)) none v5 (.int .i64 (c : Nat)) = .cond (0 <= (c : Int) /\ (c : Int) < ks.length) (.val (.bL (.int .i64 (k : Nat) :: r))) := by
 have aH := (cT.1 hx).1
 obtain ⟨r, hr⟩ := KH hx
 refine ⟨r, fun e => ?_⟩
 obtain ⟨cc, rfl, nP⟩ := hv.at (sz := 1) (e := e) aH
 rw [nP, Nat.mul_one, hr]
theorem W3 {v5 : AV} {ks : List Nat} {c k e : Nat} {τ : St} {K' : AV -> St -> Prop} {Kp : AV -> St -> Prop} (hv : eS v5 ks.length (fM ks)) (hx : ks[c]? = some k) (h : K' (.int .i64 (k : Nat)) τ) :
 (aJ (some (e, 1)) none v5 (.int .i64 (c : Nat))).wp K τ (fun p τ => (ao (some (false, 1)) p τ).wp K τ K' Kp) Kp := by
 have aH := (cT.1 hx).1
 obtain ⟨r, hr⟩ := ints_at hv hx
 rw [hr, wp_cond, ag, o8, bD]
 exact ⟨by omega, h⟩
theorem K7 {v5 : AV} {ks : List Nat} {c k e : Nat} {U : St} {kq : AV -> Prop} (hv : eS v5 ks.length (fM ks)) (hx : ks[c]? = some k) (h : kq (.int .i64 (k : Nat))) :
 av K (aJ (some (e, 1)) none v5 (.int .i64 (c : Nat))) fun p => av K (ao (some (false, 1)) p U) kq := by
 have aH := (cT.1 hx).1
 obtain ⟨r, hr⟩ := ints_at hv hx
 rw [hr, fP, aC, lj, eP]
 exact ⟨by omega, h⟩
theorem TS {v5 : AV} {ks : List Nat} {c k e : Nat} {U : St} {kq : AV -> AV -> Prop} (hv : eS v5 ks.length (fM ks)) (hx : ks[c]? = some k) (h : ∀ L, kq (.bL L) (.int .i64 (k : Nat))) :
 av K (aJ (some (e, 1)) none v5 (.int .i64 (c : Nat))) fun p => av K (ao (some (false, 1)) p U) (kq p) := by
 have aH := (cT.1 hx).1
 obtain ⟨r, hr⟩ := ints_at hv hx
 rw [hr, fP, aC, lj, eP]
 exact ⟨by omega, h _⟩
theorem OC {t : Tre} {k : Nat} (hc : ia t.flat = 0) (hk : k < t.flat.length) (h0 : k ≠ 0) : sI t.flat k = (mG t.flat k (k - 1), 0) := by
 unfold sI
 rw [ui hc (by omega), if_neg (by simp), if_neg (by omega), eF]
theorem KM {v : AV} {l : List Nd} (hv : Sl v l) : Pure K 10 [.agg [v]] (.bool true) := by
 refine Pure.of (by simp [bH, hv.cl]) rfl (fun U => rfl) fun R hR => ?_
 refine Ld ?_
 unfold MR
 rw [eH rfl]
 intro b1 fq
 have m1 : ((bj ⟨.e, 0⟩).new b1 (.box (au (.agg [v])))).box b1 = some [v] := aN
 generalize (bj _).new b1 _ = az at *
 intro j hj
 have J1 : j (.box b1 0) (.bool true) az := hj _ _ _ (dF (wh.go (aj.mk (hR _))))
 refine ql (dx m1 rfl ?_)
 rw [hv.s.len, ag, eA, ag]
 by_cases hl : (200 : Int) < l.length
 · simp only [hl, cV, aT, show (true == false) = false from rfl, aI, bS, iC, aG, if_true, ag, aX]
   exact J1
 simp only [hl, db, aT, fC, aI, bT]
 rw [w9 m1]
 refine ⟨by simp, ?_⟩
 refine qP (Jy hv) ?_
 simp only [dm, aC]
 cases ht : ni l with
 | false =>
   simp only [dJ, aT, show (true == false) = false from rfl, aI, bS, iC, aG, if_true, ag, aX, bl, if_false]
   exact J1
 | true =>
   obtain ⟨GF, jM⟩ := tZ.1 ht
   have jM : ∀ x ∈ l, x.text.length <= 3000 := fun x hx => by have := jM x hx; omega
   have cl := Ga hv (by omega)
   have cv := DD l
   simp only [cu, aT, fC, aI, bT, aG, bl, if_false, ag, bm]
   rw [w9 m1]
   refine ⟨by simp, ?_⟩
   refine cl.go ((rm cv.s cv.c (by omega) jM).go ?_)
   rw [cL, aC]
   by_cases hc : ia l = 0
   rotate_left
   · simp only [hc, db, dJ]
     exact J1
   simp only [hc, cV, cu]
   refine hj _ _ _ (dP ?_)
   have h9 : ¬ 900 < l.length := by omega
   have : ∃ t : Tre, l = t.flat /\ t.kind = 1 /\ t.ok = true := Classical.not_not.1 fun h => by rw [rn h9 h] at hc; cases hc
   obtain ⟨t, rfl, _, _⟩ := this
   clear J1 hj
   refine ql (dx m1 rfl ?_)
   rw [hv.s.len, ag]
   have pq : ∀ {K' : AV -> St -> Prop} {Kp : AV -> St -> Prop}, (∀ b, az.cj b -> K' (.ms b 0 t.flat.length 1 3) (az.new b (.box (dH t.flat 0 [])))) -> (mw (some (3, 1)) (some [AV.int .i64 0]) true (.int .i64 t.flat.length) (.int .i64 t.flat.length)).wp K az K' Kp := by
    intro K' Kp h
    simp only [mw, if_true, wp_cond]
    refine ⟨⟨by omega, trivial, by omega⟩, fun b hb => ?_⟩
    rw [eF, Fq]
    exact h b hb
   refine pq fun bc Qe => ?_
   have mc : (az.new bc (.box (dH t.flat 0 []))).box bc = some (dH t.flat 0 []) := aN
   have YR := Qe.ca m1
   have m1 := (bz Qe (x := .box (dH t.flat 0 []))).bA m1
   generalize az.new bc _ = bM at *
   clear pq Qe
   refine ⟨fun m v1 v3 v4 ad => ∃ i : Nat, m = t.flat.length - i /\ i <= t.flat.length /\ v1 = .box b1 0 /\ v3 = .ms bc 0 t.flat.length 1 3 /\ v4 = .int .i64 (i : Nat) /\ ad.box b1 = some [v] /\ ad.box bc = some (dH t.flat i []), ⟨_, 0, rfl, by omega, rfl, rfl, rfl, m1, mc⟩, ?_⟩
   rintro m v1 v3 v4 bN ⟨i, rfl, hi, rfl, rfl, rfl, m1, mc⟩
   refine ql (dx m1 rfl ?_)
   rw [hv.s.len, ag, bO, ag]
   refine kX (fun aH => ?_) fun iX => ?_
   · have aH : i < t.flat.length := by omega
     refine oh m1 (cl.go ((G7 cv (by omega) jM i).go ?_))
     simp only [bP, List.drop, bD]
     have UH : hX t.flat (i : Nat) = 0 := ui hc (by omega)
     have iD : px t.flat (i : Nat) = fg t.flat i := by unfold px; rw [if_pos UH, eF]
     obtain ⟨⟨s, _, hs, _⟩, _⟩ := place t aH
     rw [UH, iD, cL, ag, decide_eq_true rfl]
     refine dP ?_
     have kY := KI (fg t.flat i)
     have Dr := NX (l := t.flat) (p := i)
     have QF := NY hs
     have bw : ∀ k ∈ fg t.flat i, k ≠ 0 /\ mG t.flat k (k - 1) = i := fun k hk => (yh aH (QF k hk)).1 hk
     have KD := G8 hs
     have Wc : ∀ k ∈ fg t.flat i, i < k := fun k hk => by
      have := bw k hk
      have := B7 (l := t.flat) (p := k) (k - 1)
      omega
     have ZA := mF hs
     have Zz := hs.le
     have QT : ∀ c, (((fg t.flat i).take c).map (cq t.flat)).sum <= 100000 := fun c => by
      have e : ((fg t.flat i).map (cq t.flat)).sum = (((fg t.flat i).take c).map (cq t.flat)).sum + (((fg t.flat i).drop c).map (cq t.flat)).sum := by
       conv => lhs; rw [<- List.take_append_drop c (fg t.flat i)]
       rw [List.map_append, List.sum_append]
      omega
     generalize hK : fg t.flat i = ks at *
     refine ⟨fun m w1 w3 w4 w5 w7 w8 ad => ∃ c : Nat, m = ks.length - c /\ c <= ks.length /\ w1 = .box b1 0 /\ w3 = .ms bc 0 t.flat.length 1 3 /\ w4 = .int .i64 (i : Nat) /\ w5 = nZ ks /\ w7 = .int .i64 ((1 + ((ks.take c).map (cq t.flat)).sum : Nat) : Int) /\ w8 = .int .i64 (c : Nat) /\ ad.box b1 = some [v] /\ ad.box bc = some (dH t.flat i (ks.take c)), ⟨_, 0, rfl, by omega, rfl, rfl, rfl, rfl, by simp, rfl, m1, by simpa using mc⟩, ?_⟩
     rintro m w1 w3 w4 w5 w7 w8 cC ⟨c, rfl, tg, rfl, rfl, rfl, rfl, rfl, rfl, m1, mc⟩
     rw [kY.len, ag, bO, ag]
     refine kX (fun x6 => ?_) fun Zw => ?_
     · have x6 : c < ks.length := by omega
       obtain ⟨k, hk⟩ : ∃ k, ks[c]? = some k := ⟨ks[c], by simp [x6]⟩
       have QB := fw hk
       have ya := QF k QB
       have AR := Wc k QB
       have UT := bw k QB
       refine K7 kY hk ?_
       rw [hZ, aC]
       have Wa : ¬ ((k : Int) <= i) := by omega
       simp only [Wa, db, aT, fC, aI, bT, aC]
       refine K7 kY hk (kM (eu m1 rfl ?_))
       rw [hv.s.len, aC, fK, aC]
       have V9 : ¬ ((t.flat.length : Int) <= k) := by omega
       simp only [V9, db, aG, bl, if_false, aC]
       refine dP ?_
       rw [w9 m1]
       refine ⟨by simp, ?_⟩
       refine TS kY hk fun L => ?_
       refine cl.go ⟨fun _ _ => rfl, (OD cv (by omega) jM k).go ⟨fun _ _ => rfl, ?_⟩⟩
       rw [OC hc ya UT.1, UT.2]
       simp only [bP, List.drop, eP]
       rw [cL, ag, decide_eq_true rfl]
       simp only [cu, aT, fC, aI, bT, aC, cL, cV, aG, bl, if_false, ag]
       refine dP ?_
       refine W3 kY hk ?_
       have Kz : ks = ks.take c ++ k :: ks.drop (c + 1) := by
        have e : ks[c] = k := (cT.1 hk).2
        rw [<- e, <- fT x6, List.take_append_drop]
       have pn := Fs aH ya (hK.trans Kz)
       obtain ⟨r2, mh⟩ := vU (l := t.flat) (i := i) (ks := ks.take c) ya
       rw [si, eF, ck, Nat.mul_one]
       refine ⟨⟨by omega, by omega, rfl⟩, ?_⟩
       refine dx mc mh ?_
       rw [pn, cW]
       refine ⟨bh (by decide) (by decide), ?_⟩
       rw [si, eF, ck, Nat.mul_one]
       refine ⟨⟨by omega, by omega, rfl⟩, ?_⟩
       rw [dh mc]
       refine ⟨⟨rfl, rfl, by rw [tU]; omega⟩, ?_⟩
       rw [show au (AV.int .i64 (((0 : Nat) : Int) + 1)) = [.int .i64 1] from rfl, HG ya]
       have MK : (cC.set bc (.box (dH t.flat i (ks.take c ++ [k])))).box b1 = some [v] := by rw [aP YR]; exact m1
       have YP : (cC.set bc (.box (dH t.flat i (ks.take c ++ [k])))).box bc = some (dH t.flat i (ks.take c ++ [k])) := aZ
       generalize cC.set bc _ = cU at *
       refine kM (eu MK rfl (K7 kY hk ?_))
       obtain ⟨y, hy⟩ : ∃ y, t.flat[k]? = some y := ⟨t.flat[k], by simp [ya]⟩
       have ZC := nY.2.2 k y hy
       have ZP := lW hy
       have pr : ks.take (c + 1) = ks.take c ++ [k] := by rw [tP, hk]; rfl
       have yZ := QT (c + 1)
       rw [pr, List.map_append, List.sum_append] at yZ
       simp only [de, iL, List.sum_cons, List.sum_nil, Nat.add_zero] at yZ
       refine Wx (hv.jY _) hy (show (cS y)[5]? = some (.int .i64 y.size) from rfl) ?_
       rw [zW]
       refine ⟨bh (by omega) (by omega), ?_⟩
       rw [cW]
       refine ⟨bh (by omega) (by omega), ks.length - (c + 1), by omega, c + 1, rfl, by omega, rfl, rfl, rfl, rfl, ?_, by simp, MK, by rw [pr]; exact YP⟩
       congr 1
       rw [pr, List.map_append, List.sum_append]
       simp only [de, iL, List.sum_cons, List.sum_nil, Nat.add_zero]
       omega
     · have XI : c = ks.length := by omega
       subst XI
       rw [tO] at mc ⊢
       obtain ⟨x, hx⟩ : ∃ x, t.flat[i]? = some x := ⟨t.flat[i], by simp [aH]⟩
       have ZR := lW hx
       have ZB := nY.2.2 i x hx
       refine ql (dx m1 rfl ?_)
       refine L9 (hv.jY _) hx (show (cS x)[5]? = some (.int .i64 x.size) from rfl) ?_
       rw [cL, ag]
       have he : (((1 + (ks.map (cq t.flat)).sum : Nat) : Int) = x.size) := by omega
       rw [decide_eq_true he]
       refine dP ?_
       rw [cW]
       refine ⟨bh (by omega) (by omega), t.flat.length - (i + 1), by omega, i + 1, rfl, by omega, rfl, rfl, by simp, m1, ?_⟩
       rw [<- hK, Fp aH] at mc
       exact mc
   · have Mm : i = t.flat.length := by omega
     subst Mm
     have lB := t.cP
     refine ⟨fun m w3 zA ad => ∃ c : Nat, m = t.flat.length - c /\ c <= t.flat.length /\ w3 = .ms bc 0 t.flat.length 1 3 /\ zA = .int .i64 (c : Nat) /\ ad.box bc = some (dH t.flat t.flat.length []), ⟨_, 0, rfl, by omega, rfl, rfl, mc⟩, ?_⟩
     rintro m w3 zA cC ⟨c, rfl, tg, rfl, rfl, mc⟩
     rw [show bZ (some false) (AV.ms bc 0 t.flat.length 1 3) = .val (.int .i64 t.flat.length) from rfl, ag, bO, ag]
     refine kX (fun x6 => ?_) fun _ => wh.go (aj.mk (hR _))
     have x6 : c < t.flat.length := by omega
     obtain ⟨r2, mh⟩ := vU (l := t.flat) (i := t.flat.length) (ks := []) x6
     rw [si, eF, ck, Nat.mul_one]
     refine ⟨⟨by omega, by omega, rfl⟩, ?_⟩
     refine dx mc mh ?_
     rw [cL, ag]
     have next : (aw .add (BT.mk false false false none false) true (AV.int .i64 (c : Nat)) (AV.int .i64 1)).wp K cC (fun vY U => ∃ m', m' < t.flat.length - c /\ ∃ c : Nat, m' = t.flat.length - c /\ c <= t.flat.length /\ AV.ms bc 0 t.flat.length 1 3 = .ms bc 0 t.flat.length 1 3 /\ vY = .int .i64 (c : Nat) /\ U.box bc = some (dH t.flat t.flat.length [])) (aa R) := by
      rw [cW]
      exact ⟨bh (by omega) (by omega), t.flat.length - (c + 1), by omega, c + 1, rfl, by omega, rfl, by simp, mc⟩
     have oM : seen t.flat t.flat.length [] 0 = 0 := by simp [seen]
     obtain ⟨r3, qB⟩ := vU (l := t.flat) (i := t.flat.length) (ks := []) lB
     rw [oM] at qB
     have tail : av K (aJ (some (3, 1)) none (AV.ms bc 0 t.flat.length 1 3) (AV.int .i64 0)) fun B9 => av K (ao (some (false, 1)) B9 cC) fun qi => av K (aw .neq (BT.mk false false false none false) true qi (AV.int .i64 0)) fun LY =>
      ay LY (aj R (AV.bool false) cC) ((aw .add (BT.mk false false false none false) true (AV.int .i64 (c : Nat)) (AV.int .i64 1)).wp K cC (fun vY U => ∃ m', m' < t.flat.length - c /\ ∃ c : Nat, m' = t.flat.length - c /\ c <= t.flat.length /\ AV.ms bc 0 t.flat.length 1 3 = .ms bc 0 t.flat.length 1 3 /\ vY = .int .i64 (c : Nat) /\ U.box bc = some (dH t.flat t.flat.length [])) (aa R)) := by
      rw [Fj]
      refine ⟨⟨by omega, by omega, rfl⟩, ?_⟩
      refine eu mc (show List.drop (0 + (0 : Int).toNat * 1) _ = _ from qB) ?_
      rw [cL, aC]
      exact dP next
     by_cases h0 : c = 0
     · subst h0
       have oM : seen t.flat t.flat.length [] 0 = 0 := by simp [seen]
       rw [oM]
       have e1 : ¬ (((0 : Nat) : Int) = 1) := by decide
       have e2 : ¬ ((0 : Int) < ((0 : Nat) : Int)) := by decide
       simp only [e1, db, dJ, aT, fC, aI, bT, aC, eA, e2, aG, if_true, ag, bl, if_false]
       exact tail
     · have tn : seen t.flat t.flat.length [] c = 1 := by
        have := B7 (l := t.flat) (p := c) (c - 1)
        unfold seen
        rw [if_pos (.inl ⟨h0, by omega⟩)]
       rw [tn]
       have e1 : (((1 : Nat) : Int) = 1) := by decide
       simp only [e1, cV, cu, aT, show (false == true) = false from rfl, aI, bS, iC, aG, bl, if_false, ag, fC, bT, aC]
       exact tail
end Go.Rip
