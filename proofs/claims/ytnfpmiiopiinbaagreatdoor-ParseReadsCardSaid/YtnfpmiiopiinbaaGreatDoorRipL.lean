/- Lemmas for the proof: no conditions. -/
import Derived.Test.YtnfpmiiopiinbaaGreatDoorRipZz
import Derived.Test.YtnfpmiiopiinbaaGreatDoorRipK
import Derived.Test.YtnfpmiiopiinbaaGreatDoorRipJ
set_option linter.unusedVariables false
set_option linter.unusedSimpArgs false
set_option linter.loopingSimpArgs false
namespace Go.Rip
theorem Je {p : Int -> Bool} : ∀ {l : List Int}, (∀ x ∈ l, p x = true) -> l.takeWhile p = l
 | [], _ => rfl
 | a :: l, h => by rw [pn, if_pos (h a (by simp)), Je fun x hx => h x (by simp [hx])]
theorem qI {s : uO} {ss : List uO} {la rest : List Int} (h : ∀ k ∈ la, s.c.is k = true) (h1 : s.least <= la.length) (h2 : la.length <= s.CS) (h3 : rest.length = (ss.map (·.least)).sum) : dK (la ++ rest) (s :: ss) = dK rest ss := by
 have htw : la.takeWhile s.c.is = la := Je h
 have abW : min ((la ++ rest).length - (ss.map (·.least)).sum) s.CS = la.length := by
  rw [eQ]; omega
 rw [dK]
 simp only [abW, List.take_left, htw, List.drop_left]
 rw [if_neg (by omega)]
theorem qJ {c : kH} {lo hi : Nat} {ks : List Int} (h : ∀ k ∈ ks, c.is k = true) (h1 : lo <= ks.length) (h2 : ks.length <= hi) : dK ks [⟨c, lo, hi⟩] = true := by
 have := qI (s := ⟨c, lo, hi⟩) (ss := []) (rest := []) h h1 h2 rfl
 rw [mB] at this
 rw [this]; rfl
theorem ri {c : kH} {k : Int} (h : c.is k = true) : dK [k] [⟨c, 1, 1⟩] = true := qJ (by simpa using h) (by simp) (by simp)
def ox (c : Int -> Bool) (ns : List Nd) : Prop := ∃ t : Tre, ns = t.flat /\ t.ok = true /\ c t.kind = true
def oy (c : Int -> Bool) (m : Nat) (ns : List Nd) : Prop := ∃ ts : List Tre, ns = Tre.bV ts /\ Tre.r9 ts = true /\ (∀ t ∈ ts, c t.kind = true) /\ ts.length = m
theorem oy.nil {c : Int -> Bool} : oy c 0 [] := ⟨[], by simp, by simp, by simp, rfl⟩
theorem ox.n {c : Int -> Bool} {ns : List Nd} (h : ox c ns) : oy c 1 ns := by
 obtain ⟨t, h1, h2, h3⟩ := h
 exact ⟨[t], by simp [h1], by simp [h2], by simpa using h3, rfl⟩
theorem oy.snoc {c : Int -> Bool} {m : Nat} {ns ns' : List Nd} (h : oy c m ns) (k : ox c ns') : oy c (m + 1) (ns ++ ns') := by
 obtain ⟨t, h1, h2, h3⟩ := k
 obtain ⟨ts, k1, k2, k3, k4⟩ := h
 refine ⟨ts ++ [t], by simp [Tre.ki, h1, k1], by simp [Tre.qi, h2, k2], fun x hx => ?_, by simp [k4]⟩
 rw [gg, nS] at hx
 rcases hx with hx | rfl
 · exact k3 x hx
 · exact h3
theorem ox.low {c c' : Int -> Bool} {ns : List Nd} (h : ox c ns) (k : ∀ x, c x = true -> c' x = true) : ox c' ns := by
 obtain ⟨t, h1, h2, h3⟩ := h
 exact ⟨t, h1, h2, k _ h3⟩
theorem oy.le {c : Int -> Bool} {m : Nat} {ns : List Nd} (h : oy c m ns) : m <= ns.length := by
 obtain ⟨ts, k1, k2, k3, k4⟩ := h
 rw [k1, <- k4]; exact Tre.pB ts
section
variable {c : Int -> Bool} {k : Int} {tx : aZ} {n m a : Int} {f : HO} {ts : List Tre} {ns : List Nd}
theorem mw (ts : List Tre) (zH : ns = Tre.bV ts) (h3 : Tre.r9 ts = true) (hf : fo k = some f) (h1 : eW ⟨k, tx, n, m, a, 0⟩ f = true) (h2 : dK (ts.map Tre.kind) f.kids = true) (hc : c k = true) : ox c (node k tx n m a ns) := by
 refine ⟨.mk k tx n m a ts, ?_, ?_, hc⟩
 · rw [Tre.fG, zH]; rfl
 · rw [Tre.ok]; simp only [hf, h1, h2, h3, Bool.and_self]
theorem iI (hf : fo k = some f) (h1 : eW ⟨k, tx, n, m, a, 0⟩ f = true) (h2 : dK [] f.kids = true) (hc : c k = true) : ox c (node k tx n m a []) :=
 mw [] (by simp) (by simp) hf h1 h2 hc
theorem vZ {c1 : kH} {a1 : List Nd} (H1 : ox c1.is a1) (hf : fo k = some f) (h1 : eW ⟨k, tx, n, m, a, 0⟩ f = true) (h2 : ∀ k1, c1.is k1 = true -> dK [k1] f.kids = true) (hc : c k = true) : ox c (node k tx n m a a1) := by
 obtain ⟨t1, e1, o1, k1⟩ := H1
 exact mw [t1] (by simp [e1]) (by simp [o1]) hf h1 (h2 _ k1) hc
theorem Ey {c1 c2 : kH} {a1 a2 : List Nd} (H1 : ox c1.is a1) (H2 : ox c2.is a2) (hf : fo k = some f) (h1 : eW ⟨k, tx, n, m, a, 0⟩ f = true) (h2 : ∀ k1 k2, c1.is k1 = true -> c2.is k2 = true -> dK [k1, k2] f.kids = true) (hc : c k = true) : ox c (node k tx n m a (a1 ++ a2)) := by
 obtain ⟨t1, e1, o1, k1⟩ := H1
 obtain ⟨t2, e2, o2, k2⟩ := H2
 exact mw [t1, t2] (by simp [e1, e2]) (by simp [o1, o2]) hf h1 (h2 _ _ k1 k2) hc
theorem Ty {c1 c2 c3 : kH} {a1 a2 a3 : List Nd} (H1 : ox c1.is a1) (H2 : ox c2.is a2) (H3 : ox c3.is a3) (hf : fo k = some f) (h1 : eW ⟨k, tx, n, m, a, 0⟩ f = true) (h2 : ∀ k1 k2 k3, c1.is k1 = true -> c2.is k2 = true -> c3.is k3 = true -> dK [k1, k2, k3] f.kids = true) (hc : c k = true) : ox c (node k tx n m a (a1 ++ a2 ++ a3)) := by
 obtain ⟨t1, e1, o1, k1⟩ := H1
 obtain ⟨t2, e2, o2, k2⟩ := H2
 obtain ⟨t3, e3, o3, k3⟩ := H3
 exact mw [t1, t2, t3] (by simp [e1, e2, e3]) (by simp [o1, o2, o3]) hf h1 (h2 _ _ _ k1 k2 k3) hc
end
theorem Bd (k1 k2 : Int) (h1 : kH.term.is k1 = true) (h2 : kH.term.is k2 = true) : dK [k1, k2] [⟨.term, 2, 2⟩] = true := qJ (by simp [h1, h2]) (by simp) (by simp)
theorem Xz (k1 k2 k3 : Int) (h1 : kH.term.is k1 = true) (h2 : kH.term.is k2 = true) (h3 : kH.term.is k3 = true) : dK [k1, k2, k3] [⟨.term, 3, 3⟩] = true := qJ (by simp [h1, h2, h3]) (by simp) (by simp)
section
variable {L : List Tk} {E : Nat}
theorem db {w : aZ} {i j : Nat} {u : Unit} (h : bm L w i = .ok u j) : j = i + 1 /\ i < L.length := by
 have := cU h
 unfold bm at h
 split at h
 · rename_i hw
   obtain ⟨t, ht, _⟩ := tK hw
   exact ⟨this, (dP.1 ht).1⟩
 · cases h
theorem qM {w : aZ} {i : Nat} (h : bl L i w = true) : i < L.length := by
 obtain ⟨t, ht, _⟩ := tK h
 exact (dP.1 ht).1
theorem l8 (hL : ∀ t ∈ L, lM t) {i j : Nat} {x : aZ} (h : dM L i = .ok x j) : j = i + 1 /\ i < L.length /\ nN x = true /\ x ≠ [] := by
 have := jA h
 unfold dM at h
 split at h
 · rename_i t ht
   split at h
   · rename_i hk
     obtain ⟨rfl, rfl⟩ := PR.bF h
     have hm := hL t (gK ht)
     refine ⟨this, (dP.1 ht).1, ?_, hm.1⟩
     unfold nN
     rw [hm.2, hk]; simp
   · cases h
 · cases h
theorem qR (hL : ∀ t ∈ L, lM t) {i j : Nat} {x : Int} (h : fQ L i = .ok x j) : j = i + 1 /\ i < L.length /\ ga x = true := by
 have := nO h
 unfold fQ at h
 split at h
 · rename_i t ht
   split at h
   · rename_i hk
     obtain ⟨rfl, rfl⟩ := PR.bF h
     have hm := hL t (gK ht)
     refine ⟨this, (dP.1 ht).1, ?_⟩
     have := yf hm.1 (CY hm hk)
     simp [ga, this.2.2.2]
   · cases h
 · cases h
theorem pW {k a z : Int} {l : List uO} : eW ⟨k, [], 0, 0, a, z⟩ ⟨false, false, false, l⟩ = true := by simp [eW, ga]
theorem um {k a z : Int} {l : List uO} {x : aZ} (hx : nN x = true) (h0 : x ≠ []) : eW ⟨k, x, 0, 0, a, z⟩ ⟨true, false, false, l⟩ = true := by simp [eW, ga, hx, h0]
theorem CF {k a z n : Int} {l : List uO} (hn : ga n = true) : eW ⟨k, [], n, 0, a, z⟩ ⟨false, true, false, l⟩ = true := by
 have : ga 0 = true := by simp [ga]
 simp [eW, hn, this]
theorem aaE {k a z n : Int} {l : List uO} {x : aZ} (hx : nN x = true) (h0 : x ≠ []) (hn : ga n = true) : eW ⟨k, x, n, 0, a, z⟩ ⟨true, true, false, l⟩ = true := by
 have : ga 0 = true := by simp [ga]
 simp [eW, hn, this, hx, h0]
theorem XC {k a z n m : Int} {l : List uO} {x : aZ} (hx : nN x = true) (h0 : x ≠ []) (hn : ga n = true) (hm : ga m = true) : eW ⟨k, x, n, m, a, z⟩ ⟨true, true, true, l⟩ = true := by
 simp [eW, hn, hm, hx, h0]
def G1 (L : List Tk) (c : Int -> Bool) (i : Nat) (ns : List Nd) (j : Nat) : Prop := ox c ns /\ i < j /\ j <= L.length
theorem yZ (hL : ∀ t ∈ L, lM t) {i j : Nat} {ns : List Nd} (h : fJ L E i = .ok ns j) : G1 L lU i ns j := by
 unfold fJ at h
 split at h
 · rename_i hw
   have := qM hw
   obtain ⟨rfl, rfl⟩ := PR.bF h
   exact ⟨iI rfl (CF rfl) rfl rfl, by omega, by omega⟩
 · split at h
   · rename_i hw
     have := qM hw
     obtain ⟨rfl, rfl⟩ := PR.bF h
     exact ⟨iI rfl (CF rfl) rfl rfl, by omega, by omega⟩
   · split at h
     · obtain ⟨_, _, h1, h⟩ := PR.ax h
       have := qR hL h1
       obtain ⟨rfl, rfl⟩ := PR.bF h
       exact ⟨iI rfl (CF this.2.2) rfl rfl, by omega, by omega⟩
     · obtain ⟨_, _, h1, h⟩ := PR.ax h
       obtain ⟨_, _, h2, h⟩ := PR.ax h
       have := db h1; have := qR hL h2
       obtain ⟨rfl, rfl⟩ := PR.bF h
       exact ⟨iI rfl (CF this.2.2) rfl rfl, by omega, by omega⟩
theorem HT (hL : ∀ t ∈ L, lM t) {i j : Nat} {ns : List Nd} (h : jK L E i = .ok ns j) : G1 L (kH.kind 37).is i ns j := by
 unfold jK at h
 obtain ⟨_, _, h1, h⟩ := PR.ax h
 have := l8 hL h1
 obtain ⟨rfl, rfl⟩ := PR.bF h
 exact ⟨iI rfl (um this.2.2.1 this.2.2.2) rfl (by simp [kH.is]), by omega, by omega⟩
theorem II {c : Int -> Bool} {one : Nat -> PR (List Nd)} (h1 : ∀ {i j ns}, one i = .ok ns j -> G1 L c i ns j) : ∀ (f : Nat) (acc : List Nd) (m i : Nat) {j : Nat} {ns : List Nd}, js L one f acc i = .ok ns j -> oy c m acc -> 1 <= m -> m <= i -> i <= L.length -> ∃ m, oy c m ns /\ 1 <= m /\ m <= j /\ i <= j /\ j <= L.length
 | 0, _, _, _, _, _, h, _, _, _, _ => by cases h
 | f + 1, acc, m, i, j, ns, h, ha, hm, Bx, hi => by
   unfold js at h
   split at h
   · obtain ⟨_, _, h2, h⟩ := PR.ax h
     obtain ⟨k1, k2, k3⟩ := h1 h2
     obtain ⟨m', q1, q2, q3, q4, q5⟩ := II h1 f _ (m + 1) _ h (ha.snoc k1) (by omega) (by omega) k3
     exact ⟨m', q1, q2, q3, by omega, q5⟩
   · obtain ⟨rfl, rfl⟩ := PR.bF h
     exact ⟨m, ha, hm, Bx, cG _, hi⟩
theorem CP {c : Int -> Bool} {one : Nat -> PR (List Nd)} (h1 : ∀ {i j ns}, one i = .ok ns j -> G1 L c i ns j) {f i j : Nat} {ns : List Nd} (h : jr L one f i = .ok ns j) : ∃ m, oy c m ns /\ 1 <= m /\ m <= j /\ i < j /\ j <= L.length := by
 unfold jr at h
 obtain ⟨_, _, h2, h⟩ := PR.ax h
 obtain ⟨k1, k2, k3⟩ := h1 h2
 obtain ⟨m', q1, q2, q3, q4, q5⟩ := II h1 f _ 1 _ h k1.n (by omega) (by omega) k3
 exact ⟨m', q1, q2, q3, by omega, q5⟩
theorem pI {c : Int -> Bool} {ts : List Tre} (h : ∀ t ∈ ts, c t.kind = true) : ∀ k ∈ ts.map Tre.kind, c k = true := fun k hk => by
 obtain ⟨t, ht, rfl⟩ := List.mem_map.1 hk
 exact h t ht
theorem ID (hL : ∀ t ∈ L, lM t) (hn : L.length <= 900) {f i j : Nat} {ns : List Nd} (h : lI L E f i = .ok ns j) : G1 L sB i ns j := by
 unfold lI at h
 split at h
 · obtain ⟨_, _, h1, h⟩ := PR.ax h
   obtain ⟨_, _, h2, h⟩ := PR.ax h
   obtain ⟨_, _, h3, h⟩ := PR.ax h
   obtain ⟨_, _, h4, h⟩ := PR.ax h
   obtain ⟨m, ⟨ts, e1, o1, k1, l1⟩, q2, q3, q4, q5⟩ := CP (fun h => yZ hL h) h1
   have := db h2; have := db h3
   obtain ⟨⟨t, e2, o2, k2⟩, q6, q7⟩ := yZ hL h4
   obtain ⟨rfl, rfl⟩ := PR.bF h
   refine ⟨mw (ts ++ [t]) (by simp [e1, e2, Tre.ki]) (by simp [Tre.qi, o1, o2]) rfl pW ?_ rfl, by omega, q7⟩
   refine qJ (fun k hk => ?_) (by simp; omega) (by simp; omega)
   refine pI (c := lU) (ts := ts ++ [t]) (fun t ht => ?_) k hk
   simp only [gg, nS] at ht
   rcases ht with ht | rfl
   · exact k1 t ht
   · exact k2
 · obtain ⟨h1, h2, h3⟩ := yZ hL h
   exact ⟨h1.low fun k hk => by simp only [lU, sB, ej] at hk ⊢; omega, h2, h3⟩
theorem RB (hL : ∀ t ∈ L, lM t) (hn : L.length <= 900) {f i j : Nat} {ns : List Nd} (h : gm L E f i = .ok ns j) : G1 L (kH.kind 5).is i ns j := by
 unfold gm at h
 obtain ⟨_, _, h1, h⟩ := PR.ax h
 obtain ⟨_, _, h2, h⟩ := PR.ax h
 obtain ⟨_, _, h3, h⟩ := PR.ax h
 have a1 := l8 hL h1; have := db h2; have a3 := ID hL hn h3
 obtain ⟨b1, b2, b3⟩ := a3
 obtain ⟨rfl, rfl⟩ := PR.bF h
 exact ⟨vZ (c1 := .type) b1 rfl (um a1.2.2.1 a1.2.2.2) (fun k hk => ri hk) (by simp [kH.is]), by omega, b3⟩
theorem Ru {lev i : Nat} {k : Int} (h : jB L lev i = some k) (h8 : lev ≠ 8) : fo k = some ⟨false, false, false, [⟨.term, 2, 2⟩]⟩ /\ dZ k = true := by
 unfold jB at h
 simp only [h8, if_false] at h
 repeat' split at h
 all_goals first
  | (cases h; exact ⟨rfl, rfl⟩)
  | cases h
theorem MN {i : Nat} {k : Int} (h : jB L 8 i = some k) : k = 25 := by
 unfold jB at h
 simp only [show ¬ (8 : Nat) = 2 by omega, show ¬ (8 : Nat) = 3 by omega, show ¬ (8 : Nat) = 5 by omega, show ¬ (8 : Nat) = 6 by omega, show ¬ (8 : Nat) = 7 by omega, if_false, if_true] at h
 split at h
 · cases h; rfl
 · cases h
theorem XH (hL : ∀ t ∈ L, lM t) (hn : L.length <= 900) : ∀ f : Nat,
 (∀ {i j ns}, fy L E f i = .ok ns j -> G1 L dZ i ns j) /\
 (∀ {i at_ acc many j ns}, jm L E f at_ acc many i = .ok ns j -> oy dZ many acc -> 1 <= many -> many <= i -> i <= L.length -> ox dZ ns /\ i <= j /\ j <= L.length) /\
 (∀ {i j ns}, bR L E f i = .ok ns j -> G1 L dZ i ns j) /\
 (∀ {i lev j ns}, eo L E f lev i = .ok ns j -> G1 L dZ i ns j) /\
 (∀ {i lev left j ns}, ia L E f lev left i = .ok ns j -> ox dZ left -> i <= L.length -> ox dZ ns /\ i <= j /\ j <= L.length) /\
 (∀ {i j ns}, iU L E f i = .ok ns j -> G1 L dZ i ns j) /\
 (∀ {i acc m j ns}, gO L E f acc i = .ok ns j -> oy jG m acc -> 1 <= m -> m <= i -> i <= L.length -> ∃ m, oy jG m ns /\ 1 <= m /\ m <= j /\ i <= j /\ j <= L.length) /\
 (∀ {i j ns}, gI L E f i = .ok ns j -> G1 L jG i ns j) := by
 intro f
 induction f with
 | zero => refine ⟨?_, ?_, ?_, ?_, ?_, ?_, ?_, ?_⟩ <;> (intros; rename_i h; first | (rw [fy] at h; cases h; done) | (rw [bR] at h; cases h; done) | (rw [eo] at h; cases h; done) | (rw [iU] at h; cases h; done) | (rw [gI] at h; cases h; done) | (simp_all [jm]; done) | (simp_all [ia]; done) | (simp_all [gO]; done))
 | succ f ih =>
   obtain ⟨iT, iS, iF, iO, iP, iA, iG, iR⟩ := ih
   refine ⟨?_, ?_, ?_, ?_, ?_, ?_, ?_, ?_⟩
   · intro i j ns h
     rw [fy] at h
     obtain ⟨_, _, h1, h⟩ := PR.ax h
     obtain ⟨a1, a2, a3⟩ := iF h1
     obtain ⟨b1, b2, b3⟩ := iS h a1.n (by omega) (by omega) a3
     exact ⟨b1, by omega, b3⟩
   · intro i at_ acc many j ns h ha hm Bx hi
     rw [jm] at h
     split at h
     · obtain ⟨_, _, h1, h⟩ := PR.ax h
       obtain ⟨a1, a2, a3⟩ := iF h1
       obtain ⟨b1, b2, b3⟩ := iS h (ha.snoc a1) (by omega) (by omega) a3
       exact ⟨b1, by omega, b3⟩
     · obtain ⟨rfl, rfl⟩ := PR.bF h
       obtain ⟨ts, e1, o1, k1, l1⟩ := ha
       split
       · rename_i h1
         match ts, l1.trans h1 with
         | [t], _ => exact ⟨⟨t, by simp [e1], by simpa using o1, k1 t (by simp)⟩, cG _, hi⟩
       · exact ⟨mw ts e1 o1 rfl pW (qJ (pI (c := dZ) k1) (by simp; omega) (by simp; omega)) rfl, cG _, hi⟩
   · intro i j ns h
     rw [bR] at h
     split at h
     · obtain ⟨_, _, h1, h⟩ := PR.ax h
       obtain ⟨_, _, h2, h⟩ := PR.ax h
       obtain ⟨_, _, h3, h⟩ := PR.ax h
       obtain ⟨_, _, h4, h⟩ := PR.ax h
       obtain ⟨_, _, h5, h⟩ := PR.ax h
       obtain ⟨a1, a2, a3⟩ := iF h1; have := db h2; obtain ⟨b1, b2, b3⟩ := iF h3; have := db h4; obtain ⟨c1, c2, c3⟩ := iF h5
       obtain ⟨rfl, rfl⟩ := PR.bF h
       exact ⟨Ty (c1 := .term) (c2 := .term) (c3 := .term) a1 b1 c1 rfl pW Xz rfl, by omega, c3⟩
     split at h
     · obtain ⟨_, _, h1, h⟩ := PR.ax h
       obtain ⟨_, _, h2, h⟩ := PR.ax h
       obtain ⟨_, _, h3, h⟩ := PR.ax h
       obtain ⟨a1, a2, a3⟩ := iF h1; have := db h2; obtain ⟨b1, b2, b3⟩ := iF h3
       obtain ⟨rfl, rfl⟩ := PR.bF h
       exact ⟨Ey (c1 := .term) (c2 := .term) a1 b1 rfl pW Bd rfl, by omega, b3⟩
     split at h
     · obtain ⟨_, _, h1, h⟩ := PR.ax h
       obtain ⟨_, _, h2, h⟩ := PR.ax h
       obtain ⟨_, _, h3, h⟩ := PR.ax h
       obtain ⟨_, _, h4, h⟩ := PR.ax h
       obtain ⟨_, _, h5, h⟩ := PR.ax h
       obtain ⟨_, _, h6, h⟩ := PR.ax h
       obtain ⟨_, _, h7, h⟩ := PR.ax h
       have a1 := l8 hL h1; have := db h2; have a3 := qR hL h3; have := db h4; have a5 := qR hL h5; have := db h6; obtain ⟨b1, b2, b3⟩ := iF h7
       obtain ⟨rfl, rfl⟩ := PR.bF h
       exact ⟨vZ (c1 := .term) b1 rfl (XC a1.2.2.1 a1.2.2.2 a3.2.2 a5.2.2) (fun k hk => ri hk) rfl, by omega, b3⟩
     split at h
     · obtain ⟨_, _, h1, h⟩ := PR.ax h
       obtain ⟨_, _, h2, h⟩ := PR.ax h
       obtain ⟨_, _, h3, h⟩ := PR.ax h
       obtain ⟨_, _, h4, h⟩ := PR.ax h
       obtain ⟨_, _, h5, h⟩ := PR.ax h
       have a1 := l8 hL h1; have := db h2; obtain ⟨b1, b2, b3⟩ := iF h3; have := db h4; obtain ⟨c1, c2, c3⟩ := iF h5
       obtain ⟨rfl, rfl⟩ := PR.bF h
       exact ⟨Ey (c1 := .term) (c2 := .term) b1 c1 rfl (um a1.2.2.1 a1.2.2.2) Bd rfl, by omega, c3⟩
     split at h
     · obtain ⟨_, _, h1, h⟩ := PR.ax h
       obtain ⟨_, _, h2, h⟩ := PR.ax h
       obtain ⟨_, _, h3, h⟩ := PR.ax h
       obtain ⟨a1, a2, a3⟩ := iF h1; have := db h2; obtain ⟨b1, b2, b3⟩ := iF h3
       obtain ⟨rfl, rfl⟩ := PR.bF h
       exact ⟨Ey (c1 := .term) (c2 := .term) a1 b1 rfl pW Bd rfl, by omega, b3⟩
     split at h
     · obtain ⟨_, _, h1, h⟩ := PR.ax h
       obtain ⟨_, _, h2, h⟩ := PR.ax h
       obtain ⟨_, _, h3, h⟩ := PR.ax h
       obtain ⟨_, _, h4, h⟩ := PR.ax h
       obtain ⟨_, _, h5, h⟩ := PR.ax h
       have a1 := l8 hL h1; have := db h2; have a3 := qR hL h3; have := db h4; obtain ⟨b1, b2, b3⟩ := iF h5
       obtain ⟨rfl, rfl⟩ := PR.bF h
       exact ⟨vZ (c1 := .term) b1 rfl (aaE a1.2.2.1 a1.2.2.2 a3.2.2) (fun k hk => ri hk) rfl, by omega, b3⟩
     split at h
     · obtain ⟨_, _, h1, h⟩ := PR.ax h
       obtain ⟨_, _, h2, h⟩ := PR.ax h
       obtain ⟨_, _, h3, h⟩ := PR.ax h
       have a1 := l8 hL h1; have := db h2; obtain ⟨b1, b2, b3⟩ := iF h3
       obtain ⟨rfl, rfl⟩ := PR.bF h
       exact ⟨vZ (c1 := .term) b1 rfl (um a1.2.2.1 a1.2.2.2) (fun k hk => ri hk) rfl, by omega, b3⟩
     · exact iO h
   · intro i lev j ns h
     rw [eo] at h
     split at h
     · exact iA h
     split at h
     · split at h
       · obtain ⟨_, _, h1, h⟩ := PR.ax h
         obtain ⟨a1, a2, a3⟩ := iO h1
         obtain ⟨rfl, rfl⟩ := PR.bF h
         exact ⟨vZ (c1 := .term) a1 rfl pW (fun k hk => ri hk) rfl, by omega, a3⟩
       · exact iO h
     · obtain ⟨_, _, h1, h⟩ := PR.ax h
       obtain ⟨a1, a2, a3⟩ := iO h1
       obtain ⟨b1, b2, b3⟩ := iP h a1 a3
       exact ⟨b1, by omega, b3⟩
   · intro i lev left j ns h hl hi
     rw [ia] at h
     split at h
     · obtain ⟨rfl, rfl⟩ := PR.bF h; exact ⟨hl, cG _, hi⟩
     rename_i kind hk
     split at h
     · rename_i h8
       subst h8
       have := MN hk
       subst this
       obtain ⟨_, _, h1, h⟩ := PR.ax h
       have a1 := qR hL h1
       obtain ⟨b1, b2, b3⟩ := iP h (vZ (c1 := .term) hl rfl (CF a1.2.2) (fun k hk => ri hk) rfl) (by omega)
       exact ⟨b1, by omega, b3⟩
     · rename_i h8
       obtain ⟨f1, f2⟩ := Ru hk h8
       obtain ⟨_, _, h1, h⟩ := PR.ax h
       obtain ⟨a1, a2, a3⟩ := iO h1
       have Tf : ∀ p, ox dZ (node kind [] 0 0 p (left ++ _)) := fun p => Ey (c1 := .term) (c2 := .term) hl a1 f1 pW Bd f2
       split at h
       · obtain ⟨rfl, rfl⟩ := PR.bF h; exact ⟨Tf _, by omega, a3⟩
       · obtain ⟨b1, b2, b3⟩ := iP h (Tf _) a3
         exact ⟨b1, by omega, b3⟩
   · intro i j ns h
     rw [iU] at h
     split at h
     · have := qM ‹_›
       obtain ⟨rfl, rfl⟩ := PR.bF h; exact ⟨iI rfl pW rfl rfl, by omega, by omega⟩
     split at h
     · have := qM ‹_›
       obtain ⟨rfl, rfl⟩ := PR.bF h; exact ⟨iI rfl pW rfl rfl, by omega, by omega⟩
     split at h
     · have := qM ‹_›
       obtain ⟨rfl, rfl⟩ := PR.bF h; exact ⟨iI rfl pW rfl rfl, by omega, by omega⟩
     split at h
     · have := qM ‹_›
       obtain ⟨rfl, rfl⟩ := PR.bF h; exact ⟨iI rfl pW rfl rfl, by omega, by omega⟩
     split at h
     · obtain ⟨_, _, h1, h⟩ := PR.ax h
       have a1 := l8 hL h1
       obtain ⟨rfl, rfl⟩ := PR.bF h; exact ⟨iI rfl (um a1.2.2.1 a1.2.2.2) rfl rfl, by omega, by omega⟩
     split at h
     · obtain ⟨_, _, h1, h⟩ := PR.ax h
       have a1 := l8 hL h1
       obtain ⟨rfl, rfl⟩ := PR.bF h; exact ⟨iI rfl (um a1.2.2.1 a1.2.2.2) rfl rfl, by omega, by omega⟩
     split at h
     · obtain ⟨_, _, h1, h⟩ := PR.ax h
       obtain ⟨_, _, h2, h⟩ := PR.ax h
       obtain ⟨a1, a2, a3⟩ := iT h1; have := db h2
       obtain ⟨rfl, rfl⟩ := PR.bF h; exact ⟨a1, by omega, by omega⟩
     split at h
     · obtain ⟨_, _, h1, h⟩ := PR.ax h
       have a1 := qR hL h1
       obtain ⟨rfl, rfl⟩ := PR.bF h; exact ⟨iI rfl (CF a1.2.2) rfl rfl, by omega, by omega⟩
     · obtain ⟨_, _, h1, h⟩ := PR.ax h
       have a1 := l8 hL h1
       split at h
       · obtain ⟨_, _, h2, h⟩ := PR.ax h
         obtain ⟨_, _, h3, h⟩ := PR.ax h
         obtain ⟨_, _, h4, h⟩ := PR.ax h
         obtain ⟨b1, b2, b3⟩ := iR h2
         obtain ⟨m, ⟨ts, e1, o1, k1, l1⟩, q2, q3, q4, q5⟩ := iG h3 b1.n (by omega) (by omega) b3
         have := db h4
         obtain ⟨rfl, rfl⟩ := PR.bF h
         exact ⟨mw ts e1 o1 rfl (um a1.2.2.1 a1.2.2.2) (qJ (pI (c := jG) k1) (by simp; omega) (by simp; omega)) rfl, by omega, by omega⟩
       · obtain ⟨rfl, rfl⟩ := PR.bF h; exact ⟨iI rfl (um a1.2.2.1 a1.2.2.2) rfl rfl, by omega, by omega⟩
   · intro i acc m j ns h ha hm Bx hi
     rw [gO] at h
     split at h
     · obtain ⟨_, _, h1, h⟩ := PR.ax h
       obtain ⟨a1, a2, a3⟩ := iR h1
       obtain ⟨m', q1, q2, q3, q4, q5⟩ := iG h (ha.snoc a1) (by omega) (by omega) a3
       exact ⟨m', q1, q2, q3, by omega, q5⟩
     · obtain ⟨rfl, rfl⟩ := PR.bF h; exact ⟨m, ha, hm, Bx, cG _, hi⟩
   · intro i j ns h
     rw [gI] at h
     split at h
     · obtain ⟨_, _, h1, h⟩ := PR.ax h
       obtain ⟨_, _, h2, h⟩ := PR.ax h
       obtain ⟨_, _, h3, h⟩ := PR.ax h
       obtain ⟨_, _, h4, h⟩ := PR.ax h
       have := db h1
       obtain ⟨m, ⟨ts, e1, o1, k1, l1⟩, q2, q3, q4, q5⟩ := CP (fun h => HT hL h) h2
       have := db h3
       obtain ⟨⟨t, e2, o2, k2⟩, q6, q7⟩ := iF h4
       obtain ⟨rfl, rfl⟩ := PR.bF h
       refine ⟨mw (ts ++ [t]) (by simp [e1, e2, Tre.ki]) (by simp [Tre.qi, o1, o2]) rfl pW ?_ rfl, by omega, q7⟩
       rw [List.map_append, List.map_singleton]
       rw [qI (pI (c := (kH.kind 37).is) k1) (by simp; omega) (by simp; omega) rfl]
       exact ri k2
     split at h
     · obtain ⟨_, _, h1, h⟩ := PR.ax h
       obtain ⟨_, _, h2, h⟩ := PR.ax h
       obtain ⟨_, _, h3, h⟩ := PR.ax h
       obtain ⟨_, _, h4, h⟩ := PR.ax h
       obtain ⟨_, _, h5, h⟩ := PR.ax h
       obtain ⟨_, _, h6, h⟩ := PR.ax h
       obtain ⟨_, _, h7, h⟩ := PR.ax h
       obtain ⟨_, _, h8, h⟩ := PR.ax h
       have := db h1; obtain ⟨a1, a2, a3⟩ := iF h2; have := db h3; have := db h4; obtain ⟨b1, b2, b3⟩ := HT hL h5; have := db h6; obtain ⟨c1, c2, c3⟩ := iF h7; have := db h8
       obtain ⟨rfl, rfl⟩ := PR.bF h
       refine ⟨Ty (c1 := .term) (c2 := .kind 37) (c3 := .term) a1 b1 c1 rfl pW (fun k1 k2 k3 g1 g2 g3 => ?_) rfl, by omega, by omega⟩
       rw [show [k1, k2, k3] = [k1] ++ [k2, k3] from rfl, qI (by simpa using g1) (by simp) (by simp) rfl, show [k2, k3] = [k2] ++ [k3] from rfl, qI (by simpa using g2) (by simp) (by simp) rfl]
       exact ri g3
     · obtain ⟨a1, a2, a3⟩ := iT h
       exact ⟨a1.low fun k hk => by simp only [dZ, jG, ej] at hk ⊢; omega, a2, a3⟩
theorem Iz (hL : ∀ t ∈ L, lM t) (hn : L.length <= 900) {f i j : Nat} {ns : List Nd} (h : gB L E f i = .ok ns j) : G1 L ke i ns j := by
 unfold gB at h
 split at h
 · obtain ⟨_, _, h1, h⟩ := PR.ax h
   obtain ⟨_, _, h2, h⟩ := PR.ax h
   obtain ⟨_, _, h3, h⟩ := PR.ax h
   obtain ⟨_, _, h4, h⟩ := PR.ax h
   have a1 := l8 hL h1; have := db h2; obtain ⟨b1, b2, b3⟩ := ID hL hn h3; have := db h4
   obtain ⟨rfl, rfl⟩ := PR.bF h
   exact ⟨vZ (c1 := .type) b1 rfl (um a1.2.2.1 a1.2.2.2) (fun k hk => ri hk) rfl, by omega, by omega⟩
 · obtain ⟨k, p, h0, h⟩ := PR.ax h
   obtain ⟨_, _, h1, h⟩ := PR.ax h
   obtain ⟨_, _, h2, h⟩ := PR.ax h
   obtain ⟨_, _, h3, h⟩ := PR.ax h
   obtain ⟨_, _, h4, h⟩ := PR.ax h
   obtain ⟨_, _, h5, h⟩ := PR.ax h
   obtain ⟨_, _, h6, h⟩ := PR.ax h
   obtain ⟨_, _, h7, h⟩ := PR.ax h
   obtain ⟨_, _, h8, h⟩ := PR.ax h
   obtain ⟨_, _, h9, hz⟩ := PR.ax h
   have hp : p = i + 1 /\ (k = 3 \/ k = 4) := by
    split at h0
    · have := PR.bF h0; omega
    · obtain ⟨_, _, g1, g2⟩ := PR.ax h0
      have := cU g1
      have := PR.bF g2
      omega
   obtain ⟨rfl, hk⟩ := hp
   have XJ : ∀ {a : List Nd} {j q : Nat}, j <= L.length -> (if bl L j eF = true then (PR.ok [] j : PR (List Nd)) else jr L (gm L E f) f j) = .ok a q -> ∃ m, oy (kH.kind 5).is m a /\ m <= q /\ j <= q /\ q <= L.length := fun hj h => by
    split at h
    · obtain ⟨rfl, rfl⟩ := PR.bF h; exact ⟨0, .nil, by omega, cG _, hj⟩
    · obtain ⟨m, q1, q2, q3, q4, q5⟩ := CP (fun h => RB hL hn h) h
      exact ⟨m, q1, q3, by omega, q5⟩
   have a1 := l8 hL h1; have := db h2; obtain ⟨m, ⟨ts, e1, o1, k1, l1⟩, q3, q4, q5⟩ := XJ (by omega) h3; have := db h4; have := db h5; obtain ⟨⟨t2, e2, o2, k2⟩, b2, b3⟩ := yZ hL h6; have := db h7; obtain ⟨⟨t3, e3, o3, k3⟩, c2, c3⟩ := (XH hL hn f).1 h8; have := db h9
   obtain ⟨rfl, rfl⟩ := PR.bF hz
   have hf : fo k = some ⟨true, false, false, [⟨.kind 5, 0, 900⟩, ⟨.base, 1, 1⟩, ⟨.term, 1, 1⟩]⟩ := by
    rcases hk with rfl | rfl <;> rfl
   refine ⟨mw (ts ++ [t2, t3]) (by simp [e1, e2, e3, Tre.ki]) (by simp [Tre.qi, o1, o2, o3]) hf (um a1.2.2.1 a1.2.2.2) ?_ (by rcases hk with rfl | rfl <;> rfl), by omega, by omega⟩
   rw [List.map_append]
   rw [qI (pI (c := (kH.kind 5).is) k1) (by simp) (by simp; omega) rfl]
   rw [show [t2, t3].map Tre.kind = [t2.kind] ++ [t3.kind] from rfl, qI (fun k hk => by simp only [nS] at hk; subst hk; exact k2) (by simp) (by simp) rfl]
   exact ri k3
end
theorem Qg {l : List Nd} {m : Nat} (h : oy ke m l) (hm : m <= 900) : pU (node 1 [] 0 0 0 l) = if 900 < (node 1 [] 0 0 0 l).length \/ lR (node 1 [] 0 0 0 l) = true then 5 else 0 := by
 obtain ⟨ts, e1, o1, k1, l1⟩ := h
 have pX : node 1 [] 0 0 0 l = (Tre.mk 1 [] 0 0 0 ts).flat := by rw [Tre.fG, e1]; rfl
 have cW : (Tre.mk 1 [] 0 0 0 ts).ok = true := by
  rw [Tre.ok]
  have hf : fo 1 = some ⟨false, false, false, [⟨.item, 0, 900⟩]⟩ := rfl
  have := qJ (c := .item) (lo := 0) (hi := 900) (pI (c := ke) k1) (by simp) (by simp; omega)
  simp only [hf, pW, this, o1, Bool.and_self]
 rw [pX]
 by_cases h9 : 900 < (Tre.mk 1 [] 0 0 0 ts).flat.length
 · rw [if_pos (.inl h9)]; unfold pU; rw [if_pos h9]
 · rw [Dj _ h9]
   unfold vM
   rw [if_neg (by simp [Tre.kind, cW]), Hp]
   by_cases hg : 60 < (Tre.mk 1 [] 0 0 0 ts).deep \/ 24 < (Tre.mk 1 [] 0 0 0 ts).kids.length
   · rw [if_pos hg, if_pos (.inr (by simpa using hg))]
   · rw [if_neg hg, if_neg (fun h => hg (by rcases h with h | h; exact absurd h h9; simpa using h))]
end Go.Rip
