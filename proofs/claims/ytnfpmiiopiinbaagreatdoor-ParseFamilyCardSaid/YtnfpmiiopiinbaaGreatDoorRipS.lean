/- Lemmas for the proof: no conditions. -/
import Derived.Test.YtnfpmiiopiinbaaGreatDoorRipZz
import Derived.Test.YtnfpmiiopiinbaaGreatDoorRipQ
set_option linter.unusedVariables false
set_option linter.unusedSimpArgs false
set_option linter.loopingSimpArgs false
namespace Go.Rip
open Go.Proofs Go.RowKit
def rr (X : Rx) (i : Nat) (bad : Bool) : List AV := [X.tv, .int .i64 i, .bool bad]
section
variable {X : Rx} {r i : Nat} {bad : Bool} {U : St} {R : cB -> St -> Prop}
end
end Go.Rip
namespace Go.Rip
open Go.Proofs Go.RowKit
def hU (U : St) (v : AV) (ns : List Nd) : Prop := ((v = .ax /\ ns = []) \/ ∃ c, v = .vec ns.length c (cF ns)) \/ ∃ b, v = .ms b 0 ns.length 6 43 /\ U.box b = some (cF ns)
theorem hU.src {U : St} {v : AV} {ns : List Nd} (h : hU U v ns) : pn U v = some (ns.length, cF ns) := by
 rcases h with (⟨rfl, rfl⟩ | ⟨c, rfl⟩) | ⟨b, rfl, hb⟩
 · rfl
 · rfl
 · simp only [pn, hb, ej]
   rw [qC (by rw [mI]; omega)]
theorem hU.o0 {U ae : St} {v : AV} {ns : List Nd} (h : hU U v ns) (e : cH U ae) : hU ae v ns := by
 rcases h with h | ⟨b, h1, h2⟩
 · exact .inl h
 · exact .inr ⟨b, h1, e.bL h2⟩
theorem hU.cS {U : St} {v : AV} {ns : List Nd} (h : hU U v ns) : v.cS = true /\ aA v = [v] := by
 rcases h with (⟨rfl, rfl⟩ | ⟨c, rfl⟩) | ⟨b, rfl, hb⟩ <;> exact ⟨rfl, rfl⟩
section
variable {U : St} {R : cB -> St -> Prop}
end
end Go.Rip
namespace Go.Rip
open Go.Proofs Go.RowKit
theorem Vy (x y : Nd) : ak .neq (BT.mk false false false (some [.i, .s, .i, .i, .i, .i]) false) false (.agg (cM x)) (.agg (cM y)) = .val (.bool (!decide (x = y))) := by
 have : Pv (some [.i, .s, .i, .i, .i, .i]) (cM x) (cM y) = some (decide (x = y)) := by
  cases x; cases y
  simp [Pv, cM, l9]
  grind
 simp only [ak, this, sh]
theorem hU.len {U : St} {v : AV} {l : List Nd} (h : hU U v l) : bw (some false) v = .val (.int .i64 l.length) := by
 rcases h with (⟨rfl, rfl⟩ | ⟨c, rfl⟩) | ⟨b, rfl, hb⟩ <;> rfl
theorem hU.nd {U : St} {v : AV} {l : List Nd} {i : Nat} {x : Nd} {k : AV -> Prop} (h : hU U v l) (hx : l[i]? = some x) (hk : k (.agg (cM x))) :
 az K (aF (some (43, 6)) none v (.int .i64 (i : Nat))) fun p => az K (ao (some (true, 6)) p U) k := by
 have aJ := (dy.1 hx).1
 obtain ⟨r, hr⟩ := wx hx
 rcases h with (⟨rfl, rfl⟩ | ⟨c, rfl⟩) | ⟨b, rfl, hb⟩
 · simp at aJ
 · rw [VJ, dC, hr, R2]
   refine ⟨by omega, by simp [cM], ?_⟩
   simpa [cM] using hk
 · rw [B2, Qa hb, dC, cq, hr]
   refine ⟨⟨by omega, by omega, rfl⟩, by simp [cM], ?_⟩
   simpa [cM] using hk
theorem R7 {U : St} {v1 v2 : AV} {l1 l2 : List Nd} {R : cB -> St -> Prop} (h1 : hU U v1 l1) (h2 : hU U v2 l2) (IA : l1.length <= 1000000) (qj : l2.length <= 1000000) (h : R (.ret (.bool (decide (l1 = l2)))) U) : af K 47 [v1, v2] U R := by
 refine On ?_
 unfold Qp
 simp only [h1.len, h2.len, ai, bS]
 by_cases hl : l1.length = l2.length
 · have : ((l1.length : Int) = l2.length) := by omega
   simp only [this, bM, bU, aU]
   refine ⟨fun m w1 w2 v5 ae => ∃ i : Nat, m = l1.length - i /\ i <= l1.length /\ w1 = v1 /\ w2 = v2 /\ v5 = .int .i64 (i : Nat) /\ ae = U /\ ∀ j, j < i -> l1[j]? = l2[j]?, ⟨_, 0, rfl, by omega, rfl, rfl, rfl, rfl, fun j hj => by omega⟩, ?_⟩
   rintro m w1 w2 v5 ae ⟨i, rfl, hi, rfl, rfl, rfl, rfl, heq⟩
   simp only [h1.len, bj, ai, aW]
   refine ⟨fun aJ => ?_, fun gn => ?_⟩
   · have aJ : i < l1.length := by omega
     obtain ⟨x, hx⟩ : ∃ x, l1[i]? = some x := ⟨l1[i], by simp [aJ]⟩
     obtain ⟨y, hy⟩ : ∃ y, l2[i]? = some y := ⟨l2[i], by simp⟩
     refine h1.nd hx ?_
     refine h2.nd hy ?_
     rw [Vy]
     simp only [au]
     by_cases xg : x = y
     · simp only [xg, bM, bU, aU, cn]
       refine ⟨aX (by omega) (by omega), l1.length - (i + 1), by omega, i + 1, rfl, by omega, rfl, rfl, by simp, rfl, fun j hj => ?_⟩
       rcases eG j i with h | h
       · exact heq j h
       · have : j = i := by omega
         subst this; rw [hx, hy, xg]
     · simp only [xg, bZ, cZ, bf]
       refine aj.eq h ?_
       have : l1 ≠ l2 := fun e => xg (by rw [e, hy] at hx; cases hx; rfl)
       simp [this]
   · refine aj.eq h ?_
     have : l1 = l2 := List.ext_getElem? fun j => by
      rcases eG j i with h | h
      · exact heq j h
      · rw [oD (by omega), oD (by omega)]
     simp [this]
 · have : ¬ ((l1.length : Int) = l2.length) := by omega
   simp only [this, bZ, cZ, bf]
   refine aj.eq h ?_
   have : l1 ≠ l2 := fun e => hl (by rw [e])
   simp [this]
end Go.Rip
