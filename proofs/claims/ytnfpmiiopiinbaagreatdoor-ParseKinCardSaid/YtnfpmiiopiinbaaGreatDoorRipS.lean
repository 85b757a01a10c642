/- Lemmas for the proof: no conditions. -/
import Derived.Test.YtnfpmiiopiinbaaGreatDoorRipZz
import Derived.Test.YtnfpmiiopiinbaaGreatDoorRipQ
set_option linter.unusedVariables false
set_option linter.unusedSimpArgs false
set_option linter.loopingSimpArgs false
namespace Go.Rip
open Go.Proofs Go.RowKit
def rr (X : Rx) (i : Nat) (bad : Bool) : List AV := [X.tv, .int .i64 i, .bool bad]
section
variable {X : Rx} {r i : Nat} {bad : Bool} {U : St} {R : cm -> St -> Prop}
end
end Go.Rip
namespace Go.Rip
open Go.Proofs Go.RowKit
def lz (U : St) (v : AV) (ns : List Nd) : Prop := ((v = .aq /\ ns = []) \/ ∃ c, v = .vec ns.length c (cR ns)) \/ ∃ b, v = .ms b 0 ns.length 6 43 /\ U.box b = some (cR ns)
theorem lz.src {U : St} {v : AV} {ns : List Nd} (h : lz U v ns) : nL U v = some (ns.length, cR ns) := by
 rcases h with (⟨rfl, rfl⟩ | ⟨c, rfl⟩) | ⟨b, rfl, hb⟩
 · rfl
 · rfl
 · simp only [nL, hb, dC]
   rw [vN (by rw [p4]; omega)]
theorem lz.uM {U ad : St} {v : AV} {ns : List Nd} (h : lz U v ns) (e : cF U ad) : lz ad v ns := by
 rcases h with h | ⟨b, h1, h2⟩
 · exact .inl h
 · exact .inr ⟨b, h1, e.bA h2⟩
theorem lz.cr {U : St} {v : AV} {ns : List Nd} (h : lz U v ns) : v.cr = true /\ au v = [v] := by
 rcases h with (⟨rfl, rfl⟩ | ⟨c, rfl⟩) | ⟨b, rfl, hb⟩ <;> exact ⟨rfl, rfl⟩
section
variable {U : St} {R : cm -> St -> Prop}
end
end Go.Rip
namespace Go.Rip
open Go.Proofs Go.RowKit
theorem lz.len {U : St} {v : AV} {l : List Nd} (h : lz U v l) : bZ (some false) v = .val (.int .i64 l.length) := by
 rcases h with (⟨rfl, rfl⟩ | ⟨c, rfl⟩) | ⟨b, rfl, hb⟩ <;> rfl
theorem lz.nd {U : St} {v : AV} {l : List Nd} {i : Nat} {x : Nd} {k : AV -> Prop} (h : lz U v l) (hx : l[i]? = some x) (hk : k (.agg (cS x))) :
 av K (aJ (some (43, 6)) none v (.int .i64 (i : Nat))) fun p => av K (ao (some (true, 6)) p U) k := by
 have aH := (cT.1 hx).1
 obtain ⟨r, hr⟩ := uz hx
 rcases h with (⟨rfl, rfl⟩ | ⟨c, rfl⟩) | ⟨b, rfl, hb⟩
 · simp at aH
 · rw [Rp, eF, hr, On]
   refine ⟨by omega, by simp [cS], ?_⟩
   simpa [cS] using hk
 · rw [Fj, w9 hb, eF, ck, hr]
   refine ⟨⟨by omega, by omega, rfl⟩, by simp [cS], ?_⟩
   simpa [cS] using hk
end Go.Rip
