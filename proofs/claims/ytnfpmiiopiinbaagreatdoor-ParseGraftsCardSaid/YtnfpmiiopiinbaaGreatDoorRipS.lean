/- Lemmas for the proof: no conditions. -/
import Derived.Test.YtnfpmiiopiinbaaGreatDoorRipZz
import Derived.Test.YtnfpmiiopiinbaaGreatDoorRipQ
set_option linter.unusedVariables false
set_option linter.unusedSimpArgs false
set_option linter.loopingSimpArgs false
namespace Go.Rip
open Go.Proofs Go.RowKit
def rr (X : Rx) (i : Nat) (bad : Bool) : List AV := [X.tv, .int .i64 i, .bool bad]
section
variable {X : Rx} {r i : Nat} {bad : Bool} {U : St} {R : cD -> St -> Prop}
end
end Go.Rip
namespace Go.Rip
open Go.Proofs Go.RowKit
def gU (U : St) (v : AV) (ns : List Nd) : Prop := ((v = .al /\ ns = []) \/ ∃ c, v = .vec ns.length c (bC ns)) \/ ∃ b, v = .ms b 0 ns.length 6 43 /\ U.box b = some (bC ns)
theorem gU.src {U : St} {v : AV} {ns : List Nd} (h : gU U v ns) : pc U v = some (ns.length, bC ns) := by
 rcases h with (⟨rfl, rfl⟩ | ⟨c, rfl⟩) | ⟨b, rfl, hb⟩
 · rfl
 · rfl
 · simp only [pc, hb, ez]
   rw [o7 (by rw [fo]; omega)]
theorem gU.pD {U ae : St} {v : AV} {ns : List Nd} (h : gU U v ns) (e : cL U ae) : gU ae v ns := by
 rcases h with h | ⟨b, h1, h2⟩
 · exact .inl h
 · exact .inr ⟨b, h1, e.bj h2⟩
theorem gU.cQ {U : St} {v : AV} {ns : List Nd} (h : gU U v ns) : v.cQ = true /\ ay v = [v] := by
 rcases h with (⟨rfl, rfl⟩ | ⟨c, rfl⟩) | ⟨b, rfl, hb⟩ <;> exact ⟨rfl, rfl⟩
section
variable {U : St} {R : cD -> St -> Prop}
end
end Go.Rip
namespace Go.Rip
open Go.Proofs Go.RowKit
theorem VZ (x y : Nd) : aj .neq (BT.mk false false false (some [.i, .s, .i, .i, .i, .i]) false) false (.agg (bO x)) (.agg (bO y)) = .val (.bool (!decide (x = y))) := by
 have : Qc (some [.i, .s, .i, .i, .i, .i]) (bO x) (bO y) = some (decide (x = y)) := by
  cases x; cases y
  simp [Qc, bO, mC]
  grind
 simp only [aj, this, sV]
theorem gU.len {U : St} {v : AV} {l : List Nd} (h : gU U v l) : bz (some false) v = .val (.int .i64 l.length) := by
 rcases h with (⟨rfl, rfl⟩ | ⟨c, rfl⟩) | ⟨b, rfl, hb⟩ <;> rfl
theorem gU.nd {U : St} {v : AV} {l : List Nd} {i : Nat} {x : Nd} {k : AV -> Prop} (h : gU U v l) (hx : l[i]? = some x) (hk : k (.agg (bO x))) :
 aw K (aF (some (43, 6)) none v (.int .i64 (i : Nat))) fun p => aw K (ao (some (true, 6)) p U) k := by
 have aJ := (dF.1 hx).1
 obtain ⟨r, hr⟩ := tz hx
 rcases h with (⟨rfl, rfl⟩ | ⟨c, rfl⟩) | ⟨b, rfl, hb⟩
 · simp at aJ
 · rw [We, dR, hr, Sy]
   refine ⟨by omega, by simp [bO], ?_⟩
   simpa [bO] using hk
 · rw [zX, xk hb, dR, cr, hr]
   refine ⟨⟨by omega, by omega, rfl⟩, by simp [bO], ?_⟩
   simpa [bO] using hk
theorem SC {U : St} {v1 v2 : AV} {l1 l2 : List Nd} {R : cD -> St -> Prop} (h1 : gU U v1 l1) (h2 : gU U v2 l2) (xR : l1.length <= 1000000) (pI : l2.length <= 1000000) (h : R (.ret (.bool (decide (l1 = l2)))) U) : af K 47 [v1, v2] U R := by
 refine Pc ?_
 unfold QW
 simp only [h1.len, h2.len, ah, cM]
 by_cases hl : l1.length = l2.length
 · have : ((l1.length : Int) = l2.length) := by omega
   simp only [this, bT, ca, aW]
   refine ⟨fun m w1 w2 v5 ae => ∃ i : Nat, m = l1.length - i /\ i <= l1.length /\ w1 = v1 /\ w2 = v2 /\ v5 = .int .i64 (i : Nat) /\ ae = U /\ ∀ j, j < i -> l1[j]? = l2[j]?, ⟨_, 0, rfl, by omega, rfl, rfl, rfl, rfl, fun j hj => by omega⟩, ?_⟩
   rintro m w1 w2 v5 ae ⟨i, rfl, hi, rfl, rfl, rfl, rfl, heq⟩
   simp only [h1.len, bg, ah, aY]
   refine ⟨fun aJ => ?_, fun fJ => ?_⟩
   · have aJ : i < l1.length := by omega
     obtain ⟨x, hx⟩ : ∃ x, l1[i]? = some x := ⟨l1[i], by simp [aJ]⟩
     obtain ⟨y, hy⟩ : ∃ y, l2[i]? = some y := ⟨l2[i], by simp⟩
     refine h1.nd hx ?_
     refine h2.nd hy ?_
     rw [VZ]
     simp only [av]
     by_cases xV : x = y
     · simp only [xV, bT, ca, aW, cg]
       refine ⟨aS (by omega) (by omega), l1.length - (i + 1), by omega, i + 1, rfl, by omega, rfl, rfl, by simp, rfl, fun j hj => ?_⟩
       rcases eM j i with h | h
       · exact heq j h
       · have : j = i := by omega
         subst this; rw [hx, hy, xV]
     · simp only [xV, ct, dt, bf]
       refine ak.eq h ?_
       have : l1 ≠ l2 := fun e => xV (by rw [e, hy] at hx; cases hx; rfl)
       simp [this]
   · refine ak.eq h ?_
     have : l1 = l2 := List.ext_getElem? fun j => by
      rcases eM j i with h | h
      · exact heq j h
      · rw [mN (by omega), mN (by omega)]
     simp [this]
 · have : ¬ ((l1.length : Int) = l2.length) := by omega
   simp only [this, ct, dt, bf]
   refine ak.eq h ?_
   have : l1 ≠ l2 := fun e => hl (by rw [e])
   simp [this]
end Go.Rip
