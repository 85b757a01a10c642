/- Lemmas for the proof: no conditions. -/
import Derived.Test.YtnfpmiiopiinbaaGreatDoorRipZz
import Derived.Test.YtnfpmiiopiinbaaGreatDoorRipK
import Derived.Test.YtnfpmiiopiinbaaGreatDoorRipI
import Derived.Test.YtnfpmiiopiinbaaGreatDoorRipW
import Derived.Test.YtnfpmiiopiinbaaGreatDoorRipT
import Derived.Test.YtnfpmiiopiinbaaGreatDoorRipU
import Derived.Test.YtnfpmiiopiinbaaGreatDoorRipYb
set_option linter.unusedVariables false
set_option linter.unusedSimpArgs false
set_option linter.loopingSimpArgs false
namespace Go.Rip
def D7 (c : Int -> Bool) (ns : List Nd) : Prop := ∃ t : Tre, ns = t.flat /\ t.ok = true /\ c t.kind = true
def zI (c : Int -> Bool) (m : Nat) (ns : List Nd) : Prop := ∃ ts : List Tre, ns = Tre.bg ts /\ Tre.qp ts = true /\ (∀ t ∈ ts, c t.kind = true) /\ ts.length = m
theorem zI.nil {c : Int -> Bool} : zI c 0 [] := ⟨[], by simp, by simp, by simp, rfl⟩
theorem D7.n {c : Int -> Bool} {ns : List Nd} (h : D7 c ns) : zI c 1 ns := by
 obtain ⟨t, h1, h2, h3⟩ := h
 exact ⟨[t], by simp [h1], by simp [h2], by simpa using h3, rfl⟩
theorem zI.snoc {c : Int -> Bool} {m : Nat} {ns Xo : List Nd} (h : zI c m ns) (k : D7 c Xo) : zI c (m + 1) (ns ++ Xo) := by
 obtain ⟨t, h1, h2, h3⟩ := k
 obtain ⟨ts, k1, k2, k3, k4⟩ := h
 refine ⟨ts ++ [t], by simp [Tre.mK, h1, k1], by simp [Tre.ye, h2, k2], fun x hx => ?_, by simp [k4]⟩
 rw [eH, kM] at hx
 rcases hx with hx | rfl
 · exact k3 x hx
 · exact h3
theorem D7.low {c c' : Int -> Bool} {ns : List Nd} (h : D7 c ns) (k : ∀ x, c x = true -> c' x = true) : D7 c' ns := by
 obtain ⟨t, h1, h2, h3⟩ := h
 exact ⟨t, h1, h2, k _ h3⟩
theorem zI.le {c : Int -> Bool} {m : Nat} {ns : List Nd} (h : zI c m ns) : m <= ns.length := by
 obtain ⟨ts, k1, k2, k3, k4⟩ := h
 rw [k1, <- k4]; exact Tre.p7 ts
section
variable {c : Int -> Bool} {k : Int} {tx : aZ} {n m a : Int} {f : Bj} {ts : List Tre} {ns : List Nd}
end
section
variable {L : List Tk} {E : Nat}
end
end Go.Rip
namespace Go.Rip
open Go.Proofs Go.RowKit
section
variable {ay U : St} {v y : AV} {e : TypeId} {sz n m : Nat} {l l2 : List AV} {K' : AV -> St -> Prop} {Kp : AV -> St -> Prop}
end
theorem fM.lr {ay U : St} {v : AV} {ns : List Nd} (h : fM ay U v 43 6 ns.length (bm ns)) : j0 U v ns := by
 rcases h.g with ⟨h1, h2, h3⟩ | ⟨τ, r1, _, _⟩
 · exact .inl (.inl ⟨h3, pK.1 h1⟩)
 · exact .inl (.inr ⟨_, r1⟩)
end Go.Rip
namespace Go.Rip
open Go.Proofs Go.RowKit
theorem fM.apart {Ph U ad : St} {v w : AV} {e sz n e2 TD n2 : Nat} {l l2 : List AV} (h : fM Ph U v e sz n l) (bW : e ≠ e2) (k : fM Ph U w e2 TD n2 l2) (hx : cm Ph ad) (e1 : ∀ b x, (∀ n l, w ≠ .vec n (.own b) l) -> U.live b = some x -> ad.live b = some x) : fM Ph ad v e sz n l :=
 ⟨h.g.other bW k.g e1, h.z, h.t, hx⟩
end Go.Rip
