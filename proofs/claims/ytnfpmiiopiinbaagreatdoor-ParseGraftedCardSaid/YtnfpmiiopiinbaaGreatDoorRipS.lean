/- Lemmas for the proof: no conditions. -/
import Derived.Test.YtnfpmiiopiinbaaGreatDoorRipZz
import Derived.Test.YtnfpmiiopiinbaaGreatDoorRipQ
set_option linter.unusedVariables false
set_option linter.unusedSimpArgs false
set_option linter.loopingSimpArgs false
namespace Go.Rip
open Go.Proofs Go.RowKit
def rr (X : Rx) (i : Nat) (bad : Bool) : List AV := [X.tv, .int .i64 i, .bool bad]
section
variable {X : Rx} {r i : Nat} {bad : Bool} {U : St} {R : cu -> St -> Prop}
end
end Go.Rip
namespace Go.Rip
open Go.Proofs Go.RowKit
def j0 (U : St) (v : AV) (ns : List Nd) : Prop := ((v = .ag /\ ns = []) \/ ∃ c, v = .vec ns.length c (bm ns)) \/ ∃ b, v = .ms b 0 ns.length 6 43 /\ U.box b = some (bm ns)
theorem j0.src {U : St} {v : AV} {ns : List Nd} (h : j0 U v ns) : oF U v = some (ns.length, bm ns) := by
 rcases h with (⟨rfl, rfl⟩ | ⟨c, rfl⟩) | ⟨b, rfl, hb⟩
 · rfl
 · rfl
 · simp only [oF, hb, dU]
   rw [qR (by rw [eS]; omega)]
theorem j0.vR {U ad : St} {v : AV} {ns : List Nd} (h : j0 U v ns) (e : cm U ad) : j0 ad v ns := by
 rcases h with h | ⟨b, h1, h2⟩
 · exact .inl h
 · exact .inr ⟨b, h1, e.bf h2⟩
theorem j0.cC {U : St} {v : AV} {ns : List Nd} (h : j0 U v ns) : v.cC = true /\ au v = [v] := by
 rcases h with (⟨rfl, rfl⟩ | ⟨c, rfl⟩) | ⟨b, rfl, hb⟩ <;> exact ⟨rfl, rfl⟩
section
variable {U : St} {R : cu -> St -> Prop}
end
end Go.Rip
namespace Go.Rip
open Go.Proofs Go.RowKit
theorem IH (x y : Nd) : av .neq (BT.mk false false false (some [.i, .s, .i, .i, .i, .i]) false) false (.agg (bD x)) (.agg (bD y)) = .val (.bool (!decide (x = y))) := by
 have : NG (some [.i, .s, .i, .i, .i, .i]) (bD x) (bD y) = some (decide (x = y)) := by
  cases x; cases y
  simp [NG, bD, ln]
  grind
 simp only [av, this, rh]
theorem j0.len {U : St} {v : AV} {l : List Nd} (h : j0 U v l) : bU (some false) v = .val (.int .i64 l.length) := by
 rcases h with (⟨rfl, rfl⟩ | ⟨c, rfl⟩) | ⟨b, rfl, hb⟩ <;> rfl
theorem j0.nd {U : St} {v : AV} {l : List Nd} {i : Nat} {x : Nd} {k : AV -> Prop} (h : j0 U v l) (hx : l[i]? = some x) (hk : k (.agg (bD x))) :
 ai K (aP (some (43, 6)) none v (.int .i64 (i : Nat))) fun p => ai K (aq (some (true, 6)) p U) k := by
 have aK := (dx.1 hx).1
 obtain ⟨r, hr⟩ := rN hx
 rcases h with (⟨rfl, rfl⟩ | ⟨c, rfl⟩) | ⟨b, rfl, hb⟩
 · simp at aK
 · rw [S8, eG, hr, zo]
   refine ⟨by omega, by simp [bD], ?_⟩
   simpa [bD] using hk
 · rw [GD, sT hb, eG, cD, hr]
   refine ⟨⟨by omega, by omega, rfl⟩, by simp [bD], ?_⟩
   simpa [bD] using hk
theorem Fa {U : St} {v1 v2 : AV} {l1 l2 : List Nd} {R : cu -> St -> Prop} (h1 : j0 U v1 l1) (h2 : j0 U v2 l2) (B1 : l1.length <= 1000000) (pr : l2.length <= 1000000) (h : R (.ret (.bool (decide (l1 = l2)))) U) : ae K 47 [v1, v2] U R := by
 refine ME ?_
 unfold Oz
 simp only [h1.len, h2.len, ah, cO]
 by_cases hl : l1.length = l2.length
 · have : ((l1.length : Int) = l2.length) := by omega
   simp only [this, cX, cq, a7]
   refine ⟨fun m w1 w2 v5 ad => ∃ i : Nat, m = l1.length - i /\ i <= l1.length /\ w1 = v1 /\ w2 = v2 /\ v5 = .int .i64 (i : Nat) /\ ad = U /\ ∀ j, j < i -> l1[j]? = l2[j]?, ⟨_, 0, rfl, by omega, rfl, rfl, rfl, rfl, fun j hj => by omega⟩, ?_⟩
   rintro m w1 w2 v5 ad ⟨i, rfl, hi, rfl, rfl, rfl, rfl, heq⟩
   simp only [h1.len, bP, ah, bE]
   refine ⟨fun aK => ?_, fun hY => ?_⟩
   · have aK : i < l1.length := by omega
     obtain ⟨x, hx⟩ : ∃ x, l1[i]? = some x := ⟨l1[i], by simp [aK]⟩
     obtain ⟨y, hy⟩ : ∃ y, l2[i]? = some y := ⟨l2[i], by simp⟩
     refine h1.nd hx ?_
     refine h2.nd hy ?_
     rw [IH]
     simp only [aC]
     by_cases we : x = y
     · simp only [we, cX, cq, a7, c8]
       refine ⟨aX (by omega) (by omega), l1.length - (i + 1), by omega, i + 1, rfl, by omega, rfl, rfl, by simp, rfl, fun j hj => ?_⟩
       rcases fT j i with h | h
       · exact heq j h
       · have : j = i := by omega
         subst this; rw [hx, hy, we]
     · simp only [we, dz, dR, bq]
       refine al.eq h ?_
       have : l1 ≠ l2 := fun e => we (by rw [e, hy] at hx; cases hx; rfl)
       simp [this]
   · refine al.eq h ?_
     have : l1 = l2 := List.ext_getElem? fun j => by
      rcases fT j i with h | h
      · exact heq j h
      · rw [mb (by omega), mb (by omega)]
     simp [this]
 · have : ¬ ((l1.length : Int) = l2.length) := by omega
   simp only [this, dz, dR, bq]
   refine al.eq h ?_
   have : l1 ≠ l2 := fun e => hl (by rw [e])
   simp [this]
end Go.Rip
