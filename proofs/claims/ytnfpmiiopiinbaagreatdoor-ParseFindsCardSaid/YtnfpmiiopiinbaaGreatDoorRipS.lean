/- Lemmas for the proof: no conditions. -/
import Derived.Test.YtnfpmiiopiinbaaGreatDoorRipZz
import Derived.Test.YtnfpmiiopiinbaaGreatDoorRipQ
set_option linter.unusedVariables false
set_option linter.unusedSimpArgs false
set_option linter.loopingSimpArgs false
namespace Go.Rip
open Go.Proofs Go.RowKit
def rr (X : Rx) (i : Nat) (bad : Bool) : List AV := [X.tv, .int .i64 i, .bool bad]
section
variable {X : Rx} {r i : Nat} {bad : Bool} {U : St} {R : cB -> St -> Prop}
end
end Go.Rip
namespace Go.Rip
open Go.Proofs Go.RowKit
def gI (U : St) (v : AV) (ns : List Nd) : Prop := ((v = .al /\ ns = []) \/ ∃ c, v = .vec ns.length c (cw ns)) \/ ∃ b, v = .ms b 0 ns.length 6 43 /\ U.box b = some (cw ns)
theorem gI.src {U : St} {v : AV} {ns : List Nd} (h : gI U v ns) : px U v = some (ns.length, cw ns) := by
 rcases h with (⟨rfl, rfl⟩ | ⟨c, rfl⟩) | ⟨b, rfl, hb⟩
 · rfl
 · rfl
 · simp only [px, hb, dX]
   rw [pt (by rw [jv]; omega)]
theorem gI.o9 {U ae : St} {v : AV} {ns : List Nd} (h : gI U v ns) (e : cJ U ae) : gI ae v ns := by
 rcases h with h | ⟨b, h1, h2⟩
 · exact .inl h
 · exact .inr ⟨b, h1, e.bo h2⟩
theorem gI.cS {U : St} {v : AV} {ns : List Nd} (h : gI U v ns) : v.cS = true /\ ax v = [v] := by
 rcases h with (⟨rfl, rfl⟩ | ⟨c, rfl⟩) | ⟨b, rfl, hb⟩ <;> exact ⟨rfl, rfl⟩
section
variable {U : St} {R : cB -> St -> Prop}
end
end Go.Rip
namespace Go.Rip
open Go.Proofs Go.RowKit
theorem Vv (x y : Nd) : ak .neq (BT.mk false false false (some [.i, .s, .i, .i, .i, .i]) false) false (.agg (cT x)) (.agg (cT y)) = .val (.bool (!decide (x = y))) := by
 have : PA (some [.i, .s, .i, .i, .i, .i]) (cT x) (cT y) = some (decide (x = y)) := by
  cases x; cases y
  simp [PA, cT, mi]
  grind
 simp only [ak, this, so]
theorem gI.len {U : St} {v : AV} {l : List Nd} (h : gI U v l) : bB (some false) v = .val (.int .i64 l.length) := by
 rcases h with (⟨rfl, rfl⟩ | ⟨c, rfl⟩) | ⟨b, rfl, hb⟩ <;> rfl
theorem gI.nd {U : St} {v : AV} {l : List Nd} {i : Nat} {x : Nd} {k : AV -> Prop} (h : gI U v l) (hx : l[i]? = some x) (hk : k (.agg (cT x))) :
 aC K (aG (some (43, 6)) none v (.int .i64 (i : Nat))) fun p => aC K (aq (some (true, 6)) p U) k := by
 have aJ := (dm.1 hx).1
 obtain ⟨r, hr⟩ := wy hx
 rcases h with (⟨rfl, rfl⟩ | ⟨c, rfl⟩) | ⟨b, rfl, hb⟩
 · simp at aJ
 · rw [VF, ej, hr, R3]
   refine ⟨by omega, by simp [cT], ?_⟩
   simpa [cT] using hk
 · rw [B1, B2 hb, ej, ck, hr]
   refine ⟨⟨by omega, by omega, rfl⟩, by simp [cT], ?_⟩
   simpa [cT] using hk
theorem R8 {U : St} {v1 v2 : AV} {l1 l2 : List Nd} {R : cB -> St -> Prop} (h1 : gI U v1 l1) (h2 : gI U v2 l2) (IN : l1.length <= 1000000) (qu : l2.length <= 1000000) (h : R (.ret (.bool (decide (l1 = l2)))) U) : af K 47 [v1, v2] U R := by
 refine OA ?_
 unfold Qs
 simp only [h1.len, h2.len, ai, ct]
 by_cases hl : l1.length = l2.length
 · have : ((l1.length : Int) = l2.length) := by omega
   simp only [this, bS, bV, aV]
   refine ⟨fun m w1 w2 v5 ae => ∃ i : Nat, m = l1.length - i /\ i <= l1.length /\ w1 = v1 /\ w2 = v2 /\ v5 = .int .i64 (i : Nat) /\ ae = U /\ ∀ j, j < i -> l1[j]? = l2[j]?, ⟨_, 0, rfl, by omega, rfl, rfl, rfl, rfl, fun j hj => by omega⟩, ?_⟩
   rintro m w1 w2 v5 ae ⟨i, rfl, hi, rfl, rfl, rfl, rfl, heq⟩
   simp only [h1.len, bj, ai, aX]
   refine ⟨fun aJ => ?_, fun fZ => ?_⟩
   · have aJ : i < l1.length := by omega
     obtain ⟨x, hx⟩ : ∃ x, l1[i]? = some x := ⟨l1[i], by simp [aJ]⟩
     obtain ⟨y, hy⟩ : ∃ y, l2[i]? = some y := ⟨l2[i], by simp⟩
     refine h1.nd hx ?_
     refine h2.nd hy ?_
     rw [Vv]
     simp only [aw]
     by_cases xf : x = y
     · simp only [xf, bS, bV, aV, cq]
       refine ⟨aZ (by omega) (by omega), l1.length - (i + 1), by omega, i + 1, rfl, by omega, rfl, rfl, by simp, rfl, fun j hj => ?_⟩
       rcases eD j i with h | h
       · exact heq j h
       · have : j = i := by omega
         subst this; rw [hx, hy, xf]
     · simp only [xf, cm, da, bh]
       refine aj.eq h ?_
       have : l1 ≠ l2 := fun e => xf (by rw [e, hy] at hx; cases hx; rfl)
       simp [this]
   · refine aj.eq h ?_
     have : l1 = l2 := List.ext_getElem? fun j => by
      rcases eD j i with h | h
      · exact heq j h
      · rw [oK (by omega), oK (by omega)]
     simp [this]
 · have : ¬ ((l1.length : Int) = l2.length) := by omega
   simp only [this, cm, da, bh]
   refine aj.eq h ?_
   have : l1 ≠ l2 := fun e => hl (by rw [e])
   simp [this]
end Go.Rip
