/- Lemmas for the proof: no conditions. -/
import Derived.Test.YtnfpmiiopiinbaaGreatDoorRipZz
import Derived.Test.YtnfpmiiopiinbaaGreatDoorRipK
import Derived.Test.YtnfpmiiopiinbaaGreatDoorRipI
import Derived.Test.YtnfpmiiopiinbaaGreatDoorRipW
import Derived.Test.YtnfpmiiopiinbaaGreatDoorRipT
import Derived.Test.YtnfpmiiopiinbaaGreatDoorRipU
import Derived.Test.YtnfpmiiopiinbaaGreatDoorRipYb
import Derived.Test.YtnfpmiiopiinbaaGreatDoorRipAw
set_option linter.unusedVariables false
set_option linter.unusedSimpArgs false
set_option linter.loopingSimpArgs false
namespace Go.Rip
def Fe (c : Int -> Bool) (ns : List Nd) : Prop := ∃ t : Tre, ns = t.flat /\ t.ok = true /\ c t.kind = true
def Ay (c : Int -> Bool) (m : Nat) (ns : List Nd) : Prop := ∃ ts : List Tre, ns = Tre.bE ts /\ Tre.ry ts = true /\ (∀ t ∈ ts, c t.kind = true) /\ ts.length = m
theorem Ay.nil {c : Int -> Bool} : Ay c 0 [] := ⟨[], by simp, by simp, by simp, rfl⟩
theorem Fe.n {c : Int -> Bool} {ns : List Nd} (h : Fe c ns) : Ay c 1 ns := by
 obtain ⟨t, h1, h2, h3⟩ := h
 exact ⟨[t], by simp [h1], by simp [h2], by simpa using h3, rfl⟩
theorem Ay.snoc {c : Int -> Bool} {m : Nat} {ns ZE : List Nd} (h : Ay c m ns) (k : Fe c ZE) : Ay c (m + 1) (ns ++ ZE) := by
 obtain ⟨t, h1, h2, h3⟩ := k
 obtain ⟨ts, k1, k2, k3, k4⟩ := h
 refine ⟨ts ++ [t], by simp [Tre.nS, h1, k1], by simp [Tre.y8, h2, k2], fun x hx => ?_, by simp [k4]⟩
 rw [fC, lg] at hx
 rcases hx with hx | rfl
 · exact k3 x hx
 · exact h3
theorem Fe.low {c c' : Int -> Bool} {ns : List Nd} (h : Fe c ns) (k : ∀ x, c x = true -> c' x = true) : Fe c' ns := by
 obtain ⟨t, h1, h2, h3⟩ := h
 exact ⟨t, h1, h2, k _ h3⟩
theorem Ay.le {c : Int -> Bool} {m : Nat} {ns : List Nd} (h : Ay c m ns) : m <= ns.length := by
 obtain ⟨ts, k1, k2, k3, k4⟩ := h
 rw [k1, <- k4]; exact Tre.nC ts
section
variable {c : Int -> Bool} {k : Int} {tx : bf} {n m a : Int} {f : Ax} {ts : List Tre} {ns : List Nd}
end
section
variable {L : List Tk} {E : Nat}
end
end Go.Rip
namespace Go.Rip
open Go.Proofs Go.RowKit
section
variable {aF U : St} {v y : AV} {e : TypeId} {sz n m : Nat} {l l2 : List AV} {K' : AV -> St -> Prop} {Kp : AV -> St -> Prop}
end
theorem fj.eO {aF U : St} {v : AV} {ns : List Nd} (h : fj aF U v 43 6 ns.length (cw ns)) : gI U v ns := by
 rcases h.g with ⟨h1, h2, h3⟩ | ⟨τ, r1, _, _⟩
 · exact .inl (.inl ⟨h3, qL.1 h1⟩)
 · exact .inl (.inr ⟨_, r1⟩)
end Go.Rip
namespace Go.Rip
open Go.Proofs Go.RowKit
theorem fj.apart {Rd U ae : St} {v w : AV} {e sz n e2 Wc n2 : Nat} {l l2 : List AV} (h : fj Rd U v e sz n l) (bQ : e ≠ e2) (k : fj Rd U w e2 Wc n2 l2) (hx : cJ Rd ae) (e1 : ∀ b x, (∀ n l, w ≠ .vec n (.own b) l) -> U.live b = some x -> ae.live b = some x) : fj Rd ae v e sz n l :=
 ⟨h.g.other bQ k.g e1, h.z, h.t, hx⟩
end Go.Rip
namespace Go.Rip
open Go.Proofs Go.RowKit
theorem Dz (U : St) (l : List Nd) : gI U (gx l) l := by
 unfold gx
 split
 · rename_i h; subst h; exact .inl (.inl ⟨rfl, rfl⟩)
 · exact .inl (.inr ⟨_, rfl⟩)
theorem J2 (l1 l2 : List Nd) (h1 : l1.length <= 1000000) (h2 : l2.length <= 1000000) : Pure K 22 [.agg [gx l1], .agg [gx l2]] (.bool (decide (l1 = l2))) := by
 refine Pure.of (by simp [bU, closed, oX]) rfl (fun U => rfl) fun R hR => ?_
 refine Oo ?_
 unfold Qi
 rw [eA rfl]
 intro b1 dC
 rw [eA rfl]
 intro b2 gK
 have m1 : ((bD ⟨.e, 0⟩).new b1 (.box (ax (.agg [gx l1])))).box b1 = some [gx l1] := aL
 have Jy := (bm gK (x := .box (ax (.agg [gx l2])))).bo m1
 have m2 : (((bD ⟨.e, 0⟩).new b1 (.box (ax (.agg [gx l1])))).new b2 (.box (ax (.agg [gx l2])))).box b2 = some [gx l2] := aL
 generalize ((bD _).new b1 _).new b2 _ = U at *
 simp only [aU, ai, ck]
 refine eG Jy rfl ?_
 refine eG m2 rfl ?_
 exact R8 (Dz _ _) (Dz _ _) h1 h2 (aj.mk (hR _))
end Go.Rip
