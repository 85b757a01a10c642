/- Lemmas for the proof: no conditions. -/
import Derived.Test.YtnfpmiiopiinbaaGreatDoorRipZz
import Derived.Test.YtnfpmiiopiinbaaGreatDoorRipV
import Derived.Test.YtnfpmiiopiinbaaGreatDoorRipF
set_option linter.unusedVariables false
set_option linter.unusedSimpArgs false
set_option linter.loopingSimpArgs false
namespace Go.Rip
open Go.Proofs Go.RowKit
def LH (k : Int) (ks : List Int) : Bool := match gw k with | some f => mI ks f.kids | none => false
theorem qJ {k : Int} (h : k < 1 \/ 37 < k) : gw k = none := by
 unfold gw
 repeat rw [if_neg (by omega)]
section
variable {U : St} {R : cu -> St -> Prop} {v : AV} {ks : List Int} {c : Prop} [Decidable c] {q : Bool} {f : FuncId} {Kp : AV -> St -> Prop} {K' : AV -> St -> Prop} {Kp : AV -> St -> Prop}
end
end Go.Rip
namespace Go.Rip
open Go.Proofs Go.RowKit
section
variable {U : St} {bt : BT} {l : Bool} {k : IntKind} {a b : Int} {K' : AV -> St -> Prop} {Kp : AV -> St -> Prop}
theorem G9 (h : K' (.bool (decide (a = b))) U) : (av .eql bt l (.int k a) (.int k b)).wp K U K' Kp := by rw [bl]; exact h
theorem Us (h : K' (.bool (decide (b <= a))) U) : (av .geq bt l (.int k a) (.int k b)).wp K U K' Kp := by rw [gI]; exact h
theorem Dm (h : K' (.bool (decide (b < a))) U) : (av .gtr bt l (.int k a) (.int k b)).wp K U K' Kp := by rw [eO]; exact h
theorem dq {A B : Prop} (h : A) : az (.bool true) A B := by rw [bq]; exact h
theorem dF {A B : Prop} (h : B) : az (.bool false) A B := by rw [a7]; exact h
theorem ir {p : Prop} [Decidable p] {A B : Prop} (h : p -> A) (h' : ¬ p -> B) : az (.bool (decide p)) A B := by rw [bE]; exact ⟨h, h'⟩
end
def y8 (x : Nd) : Bool := (FT x.kind == decide (x.text ≠ [])) && (!decide (x.text ≠ []) || lB x.text) && (if FR x.kind then kY x.n else decide (x.n = 0)) && (if x.kind = 12 then kY x.m else decide (x.m = 0))
theorem AP : ∀ n : Fin 38, (match gw ((n.val : Nat) : Int) with | some f => f.text == FT (n.val : Nat) && f.n == FR (n.val : Nat) && f.m == decide (((n.val : Nat) : Int) = 12) | none => true) = true := by decide +kernel
theorem BI {k : Int} {f : Bj} (h : gw k = some f) : f.text = FT k /\ f.n = FR k /\ f.m = decide (k = 12) := by
 have hk : 1 <= k /\ k <= 37 := by
  by_cases h1 : k < 1 \/ 37 < k
  · rw [qJ h1] at h; cases h
  · omega
 obtain ⟨n, rfl⟩ : ∃ n : Nat, k = n := ⟨k.toNat, by omega⟩
 have := AP ⟨n, by omega⟩
 simp only [h, bM, beq_iff_eq] at this
 exact ⟨this.1.1, this.1.2, this.2⟩
theorem zR {x : Nd} {f : Bj} (h : gw x.kind = some f) : y8 x = kz x f := by
 obtain ⟨h1, h2, h3⟩ := BI h
 have z : kY 0 = true := by simp [kY]
 unfold y8 kz
 rw [<- h1, <- h2]
 have hm : (if x.kind = 12 then kY x.m else decide (x.m = 0)) = (if f.m = true then kY x.m else decide (x.m = 0)) := by
  rw [h3]; by_cases h : x.kind = 12 <;> simp [h]
 rw [hm]
 have e0 : (x.text != []) = decide (x.text ≠ []) := by
  by_cases h : x.text = [] <;> simp [h]
 rw [e0]
 by_cases ht : x.text = []
 · have : lB [] = false := by decide
   cases f.text <;> cases f.n <;> cases f.m <;> by_cases hn : x.n = 0 <;> by_cases B5 : x.m = 0 <;> simp [ht, hn, B5, z, this]
 · cases f.text <;> cases f.n <;> cases f.m <;> by_cases hn : x.n = 0 <;> by_cases B5 : x.m = 0 <;> simp [ht, hn, B5, z]
end Go.Rip
namespace Go.Rip
open Go.Proofs Go.RowKit
theorem jX {f : FuncId} {args : List AV} {x : AV} {kq : AV -> Prop} (h : Pure K f args x) (hk : kq x) : ai K (aA.enter f args) kq := ⟨x, h, hk⟩
theorem eA {b o k : Nat} {kq : AV -> Prop} (h : kq (.box b (o + k))) : ai K (af (some k) (.box b o)) kq := h
theorem RH {b o k : Nat} {kq : AV -> Prop} (h : kq (.box b (o + k))) : aj K (.bool true) (af (some k) (.box b o)) kq := h
theorem RI {U : St} {b o : Nat} {L l : List AV} {x : AV} {kq : AV -> Prop} (hb : U.box b = some L) (hd : L.drop o = x :: l) (h : kq x) : aj K (.bool true) (aq (some (false, 1)) (.box b o) U) kq := by rw [ld hb, hd]; exact h
theorem cI {U : St} {b o : Nat} {L l : List AV} {x : AV} {kq : AV -> Prop} (hb : U.box b = some L) (hd : L.drop o = x :: l) (h : kq x) : ai K (aq (some (false, 1)) (.box b o) U) kq := by rw [ld hb, hd]; exact h
theorem eW {U τ : St} {b o : Nat} {L l : List AV} {x : AV} {K' : AV -> St -> Prop} {Kp : AV -> St -> Prop} (hb : U.box b = some L) (hd : L.drop o = x :: l) (h : K' x τ) : (aq (some (false, 1)) (.box b o) U).wp K τ K' Kp := by rw [ld hb, hd]; exact h
end Go.Rip
namespace Go.Rip
open Go.Proofs Go.RowKit
def sI (x : Nd) (ks : List Int) : Bool := y8 x && LH x.kind ks
theorem CJ {k : Int} {t : aZ} {n m a : Int} {ks : List Tre} {x : Nd} (h1 : x.kind = k) (h2 : x.text = t) (h3 : x.n = n) (h4 : x.m = m) : (Tre.mk k t n m a ks).ok = (sI x (ks.map Tre.kind) && Tre.qp ks) := by
 rw [Tre.ok]
 congr 1
 unfold sI LH
 rw [h1]
 cases hf : gw k with
 | none => simp
 | some f =>
   rw [zR (f := f) (by rw [h1]; exact hf)]
   congr 1
   unfold kz
   simp only [h2, h3, h4]
theorem CN {l : List Nd} : ∀ (N : Nat) (ts : List Tre) (p : Nat), (Tre.bg ts).length <= N -> js l p ts -> (∀ j s x, p <= j -> j < p + (Tre.bg ts).length -> eZ l j s -> l[j]? = some x -> sI x (s.kids.map Tre.kind) = true) -> Tre.qp ts = true
 | _, [], _, _, _, _ => by simp
 | 0, t :: ts, _, hN, _, _ => by have := t.cV; simp only [Tre.cE, ep] at hN; omega
 | N + 1, .mk k tx n m a ks :: ts, p, hN, h, bK => by
   have rB : (Tre.mk k tx n m a ks).flat.length = (Tre.bg ks).length + 1 := iD (.mk k tx n m a ks)
   simp only [Tre.cE, ep] at hN bK
   rw [Tre.sJ]
   obtain ⟨x, hx, h1, h2, h3, h4, h5, h6⟩ := h.head.mE
   rw [CJ (k := k) (t := tx) (n := n) (m := m) (x := x) h1 h3 h4 h5]
   have e1 : sI x (ks.map Tre.kind) = true := bK p _ x (cG _) (by omega) h.head hx
   have e2 := CN N ks (p + 1) (by omega) h.head.kids fun j s y tE po => bK j s y (by omega) (by omega)
   have e3 := CN N ts (p + (Tre.flat (.mk k tx n m a ks)).length) (by omega) h.tail fun j s y tE po => bK j s y (by omega) (by omega)
   rw [e1, e2, e3]; rfl
theorem TC {t : Tre} (h : t.ok = true) {i : Nat} {s : Tre} (hs : eZ t.flat i s) : s.ok = true := by
 have hi : i < t.flat.length := by have := hs.le; have := s.cV; omega
 obtain ⟨s', h1, h2⟩ := vK (l := t.flat) t.flat.length [t] 0 (by simp) ⟨[], by simp⟩ i (by omega) (by simpa using hi)
 rw [hs.inj h1]
 exact h2 (by simp [h])
theorem Ml {s : Tre} (h : s.ok = true) {l : List Nd} {i : Nat} {x : Nd} (hs : eZ l i s) (hx : l[i]? = some x) : sI x (s.kids.map Tre.kind) = true := by
 obtain ⟨y, hy, h1, h2, h3, h4, h5, h6⟩ := hs.mE
 rw [hx] at hy; cases hy
 cases s with
 | mk k tx n m a ks =>
   rw [CJ (k := k) (t := tx) (n := n) (m := m) (x := x) h1 h3 h4 h5, bM] at h
   exact h.1
end Go.Rip
namespace Go.Rip
open Go.Proofs Go.RowKit
theorem Dk {U : St} {bt : BT} {l : Bool} {k : IntKind} {a b : Int} {A B : AV -> St -> Prop} {Kp : AV -> St -> Prop} (h : a < b -> A (.bool true) U) (h' : ¬ a < b -> B (.bool false) U) : (av .lss bt l (.int k a) (.int k b)).wp K U (fun v U => az v (A v U) (B v U)) Kp := by
 rw [bP, ah]
 by_cases hc : a < b
 · simp only [hc, cX]; exact dq (h hc)
 · simp only [hc, dz]; exact dF (h' hc)
end Go.Rip
