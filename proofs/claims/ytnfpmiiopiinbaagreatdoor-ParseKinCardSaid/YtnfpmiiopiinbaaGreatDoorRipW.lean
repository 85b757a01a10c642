/- Lemmas for the proof: no conditions. -/
import Derived.Test.YtnfpmiiopiinbaaGreatDoorRipZz
import Derived.Test.YtnfpmiiopiinbaaGreatDoorRipV
import Derived.Test.YtnfpmiiopiinbaaGreatDoorRipF
set_option linter.unusedVariables false
set_option linter.unusedSimpArgs false
set_option linter.loopingSimpArgs false
namespace Go.Rip
open Go.Proofs Go.RowKit
def Kf (k : Int) (ks : List Int) : Bool := match gg k with | some f => mf ks f.kids | none => false
theorem pV {k : Int} (h : k < 1 \/ 37 < k) : gg k = none := by
 unfold gg
 repeat rw [if_neg (by omega)]
section
variable {U : St} {R : cm -> St -> Prop} {v : AV} {ks : List Int} {c : Prop} [Decidable c] {q : Bool} {f : FuncId} {Kp : AV -> St -> Prop} {K' : AV -> St -> Prop} {Kp : AV -> St -> Prop}
end
end Go.Rip
namespace Go.Rip
open Go.Proofs Go.RowKit
section
variable {U : St} {bt : BT} {l : Bool} {k : IntKind} {a b : Int} {K' : AV -> St -> Prop} {Kp : AV -> St -> Prop}
theorem FI (h : K' (.bool (decide (a = b))) U) : (aw .eql bt l (.int k a) (.int k b)).wp K U K' Kp := by rw [bf]; exact h
theorem Sw (h : K' (.bool (decide (b <= a))) U) : (aw .geq bt l (.int k a) (.int k b)).wp K U K' Kp := by rw [fK]; exact h
theorem JM (h : K' (.bool (decide (b < a))) U) : (aw .gtr bt l (.int k a) (.int k b)).wp K U K' Kp := by rw [eA]; exact h
theorem dF {A B : Prop} (h : A) : ay (.bool true) A B := by rw [bm]; exact h
theorem dP {A B : Prop} (h : B) : ay (.bool false) A B := by rw [aX]; exact h
theorem kX {p : Prop} [Decidable p] {A B : Prop} (h : p -> A) (h' : ¬ p -> B) : ay (.bool (decide p)) A B := by rw [br]; exact ⟨h, h'⟩
end
def xZ (x : Nd) : Bool := (Et x.kind == decide (x.text ≠ [])) && (!decide (x.text ≠ []) || kK x.text) && (if Es x.kind then kn x.n else decide (x.n = 0)) && (if x.kind = 12 then kn x.m else decide (x.m = 0))
theorem zF : ∀ n : Fin 38, (match gg ((n.val : Nat) : Int) with | some f => f.text == Et (n.val : Nat) && f.n == Es (n.val : Nat) && f.m == decide (((n.val : Nat) : Int) = 12) | none => true) = true := by decide +kernel
theorem AE {k : Int} {f : C2} (h : gg k = some f) : f.text = Et k /\ f.n = Es k /\ f.m = decide (k = 12) := by
 have hk : 1 <= k /\ k <= 37 := by
  by_cases h1 : k < 1 \/ 37 < k
  · rw [pV h1] at h; cases h
  · omega
 obtain ⟨n, rfl⟩ : ∃ n : Nat, k = n := ⟨k.toNat, by omega⟩
 have := zF ⟨n, by omega⟩
 simp only [h, bF, beq_iff_eq] at this
 exact ⟨this.1.1, this.1.2, this.2⟩
theorem yP {x : Nd} {f : C2} (h : gg x.kind = some f) : xZ x = jV x f := by
 obtain ⟨h1, h2, h3⟩ := AE h
 have z : kn 0 = true := by simp [kn]
 unfold xZ jV
 rw [<- h1, <- h2]
 have hm : (if x.kind = 12 then kn x.m else decide (x.m = 0)) = (if f.m = true then kn x.m else decide (x.m = 0)) := by
  rw [h3]; by_cases h : x.kind = 12 <;> simp [h]
 rw [hm]
 have e0 : (x.text != []) = decide (x.text ≠ []) := by
  by_cases h : x.text = [] <;> simp [h]
 rw [e0]
 by_cases ht : x.text = []
 · have : kK [] = false := by decide
   cases f.text <;> cases f.n <;> cases f.m <;> by_cases hn : x.n = 0 <;> by_cases GI : x.m = 0 <;> simp [ht, hn, GI, z, this]
 · cases f.text <;> cases f.n <;> cases f.m <;> by_cases hn : x.n = 0 <;> by_cases GI : x.m = 0 <;> simp [ht, hn, GI, z]
end Go.Rip
namespace Go.Rip
open Go.Proofs Go.RowKit
theorem qP {f : FuncId} {args : List AV} {x : AV} {kq : AV -> Prop} (h : Pure K f args x) (hk : kq x) : av K (aA.enter f args) kq := ⟨x, h, hk⟩
theorem kM {b o k : Nat} {kq : AV -> Prop} (h : kq (.box b (o + k))) : av K (af (some k) (.box b o)) kq := h
theorem P4 {b o k : Nat} {kq : AV -> Prop} (h : kq (.box b (o + k))) : ah K (.bool true) (af (some k) (.box b o)) kq := h
theorem P5 {U : St} {b o : Nat} {L l : List AV} {x : AV} {kq : AV -> Prop} (hb : U.box b = some L) (hd : L.drop o = x :: l) (h : kq x) : ah K (.bool true) (ao (some (false, 1)) (.box b o) U) kq := by rw [ld hb, hd]; exact h
theorem eu {U : St} {b o : Nat} {L l : List AV} {x : AV} {kq : AV -> Prop} (hb : U.box b = some L) (hd : L.drop o = x :: l) (h : kq x) : av K (ao (some (false, 1)) (.box b o) U) kq := by rw [ld hb, hd]; exact h
theorem dx {U τ : St} {b o : Nat} {L l : List AV} {x : AV} {K' : AV -> St -> Prop} {Kp : AV -> St -> Prop} (hb : U.box b = some L) (hd : L.drop o = x :: l) (h : K' x τ) : (ao (some (false, 1)) (.box b o) U).wp K τ K' Kp := by rw [ld hb, hd]; exact h
end Go.Rip
namespace Go.Rip
open Go.Proofs Go.RowKit
def rL (x : Nd) (ks : List Int) : Bool := xZ x && Kf x.kind ks
theorem BA {k : Int} {t : aW} {n m a : Int} {ks : List Tre} {x : Nd} (h1 : x.kind = k) (h2 : x.text = t) (h3 : x.n = n) (h4 : x.m = m) : (Tre.mk k t n m a ks).ok = (rL x (ks.map Tre.kind) && Tre.u4 ks) := by
 rw [Tre.ok]
 congr 1
 unfold rL Kf
 rw [h1]
 cases hf : gg k with
 | none => simp
 | some f =>
   rw [yP (f := f) (by rw [h1]; exact hf)]
   congr 1
   unfold jV
   simp only [h2, h3, h4]
theorem BE {l : List Nd} : ∀ (N : Nat) (ts : List Tre) (p : Nat), (Tre.a7 ts).length <= N -> hU l p ts -> (∀ j s x, p <= j -> j < p + (Tre.a7 ts).length -> dT l j s -> l[j]? = some x -> rL x (s.kids.map Tre.kind) = true) -> Tre.u4 ts = true
 | _, [], _, _, _, _ => by simp
 | 0, t :: ts, _, hN, _, _ => by have := t.cP; simp only [Tre.cb, eG] at hN; omega
 | N + 1, .mk k tx n m a ks :: ts, p, hN, h, bw => by
   have AN : (Tre.mk k tx n m a ks).flat.length = (Tre.a7 ks).length + 1 := jc (.mk k tx n m a ks)
   simp only [Tre.cb, eG] at hN bw
   rw [Tre.rM]
   obtain ⟨x, hx, h1, h2, h3, h4, h5, h6⟩ := h.head.mK
   rw [BA (k := k) (t := tx) (n := n) (m := m) (x := x) h1 h3 h4 h5]
   have e1 : rL x (ks.map Tre.kind) = true := bw p _ x (cA _) (by omega) h.head hx
   have e2 := BE N ks (p + 1) (by omega) h.head.kids fun j s y wI oG => bw j s y (by omega) (by omega)
   have e3 := BE N ts (p + (Tre.flat (.mk k tx n m a ks)).length) (by omega) h.tail fun j s y wI oG => bw j s y (by omega) (by omega)
   rw [e1, e2, e3]; rfl
theorem RT {t : Tre} (h : t.ok = true) {i : Nat} {s : Tre} (hs : dT t.flat i s) : s.ok = true := by
 have hi : i < t.flat.length := by have := hs.le; have := s.cP; omega
 obtain ⟨s', h1, h2⟩ := uF (l := t.flat) t.flat.length [t] 0 (by simp) ⟨[], by simp⟩ i (by omega) (by simpa using hi)
 rw [hs.inj h1]
 exact h2 (by simp [h])
theorem KY {s : Tre} (h : s.ok = true) {l : List Nd} {i : Nat} {x : Nd} (hs : dT l i s) (hx : l[i]? = some x) : rL x (s.kids.map Tre.kind) = true := by
 obtain ⟨y, hy, h1, h2, h3, h4, h5, h6⟩ := hs.mK
 rw [hx] at hy; cases hy
 cases s with
 | mk k tx n m a ks =>
   rw [BA (k := k) (t := tx) (n := n) (m := m) (x := x) h1 h3 h4 h5, bF] at h
   exact h.1
end Go.Rip
namespace Go.Rip
open Go.Proofs Go.RowKit
theorem Cf {U : St} {bt : BT} {l : Bool} {k : IntKind} {a b : Int} {A B : AV -> St -> Prop} {Kp : AV -> St -> Prop} (h : a < b -> A (.bool true) U) (h' : ¬ a < b -> B (.bool false) U) : (aw .lss bt l (.int k a) (.int k b)).wp K U (fun v U => ay v (A v U) (B v U)) Kp := by
 rw [bO, ag]
 by_cases hc : a < b
 · simp only [hc, cV]; exact dF (h hc)
 · simp only [hc, db]; exact dP (h' hc)
end Go.Rip
