/- Lemmas for the proof: no conditions. -/
import Derived.Test.YtnfpmiiopiinbaaGreatDoorRipZz
import Derived.Test.YtnfpmiiopiinbaaGreatDoorRipK
import Derived.Test.YtnfpmiiopiinbaaGreatDoorRipI
import Derived.Test.YtnfpmiiopiinbaaGreatDoorRipW
import Derived.Test.YtnfpmiiopiinbaaGreatDoorRipT
import Derived.Test.YtnfpmiiopiinbaaGreatDoorRipU
import Derived.Test.YtnfpmiiopiinbaaGreatDoorRipYb
import Derived.Test.YtnfpmiiopiinbaaGreatDoorRipAw
set_option linter.unusedVariables false
set_option linter.unusedSimpArgs false
set_option linter.loopingSimpArgs false
namespace Go.Rip
def FV (c : Int -> Bool) (ns : List Nd) : Prop := ∃ t : Tre, ns = t.flat /\ t.ok = true /\ c t.kind = true
def Bl (c : Int -> Bool) (m : Nat) (ns : List Nd) : Prop := ∃ ts : List Tre, ns = Tre.bB ts /\ Tre.rW ts = true /\ (∀ t ∈ ts, c t.kind = true) /\ ts.length = m
theorem Bl.nil {c : Int -> Bool} : Bl c 0 [] := ⟨[], by simp, by simp, by simp, rfl⟩
theorem FV.n {c : Int -> Bool} {ns : List Nd} (h : FV c ns) : Bl c 1 ns := by
 obtain ⟨t, h1, h2, h3⟩ := h
 exact ⟨[t], by simp [h1], by simp [h2], by simpa using h3, rfl⟩
theorem Bl.snoc {c : Int -> Bool} {m : Nat} {ns ns' : List Nd} (h : Bl c m ns) (k : FV c ns') : Bl c (m + 1) (ns ++ ns') := by
 obtain ⟨t, h1, h2, h3⟩ := k
 obtain ⟨ts, k1, k2, k3, k4⟩ := h
 refine ⟨ts ++ [t], by simp [Tre.ot, h1, k1], by simp [Tre.zS, h2, k2], fun x hx => ?_, by simp [k4]⟩
 rw [eZ, mP] at hx
 rcases hx with hx | rfl
 · exact k3 x hx
 · exact h3
theorem FV.low {c c' : Int -> Bool} {ns : List Nd} (h : FV c ns) (k : ∀ x, c x = true -> c' x = true) : FV c' ns := by
 obtain ⟨t, h1, h2, h3⟩ := h
 exact ⟨t, h1, h2, k _ h3⟩
theorem Bl.le {c : Int -> Bool} {m : Nat} {ns : List Nd} (h : Bl c m ns) : m <= ns.length := by
 obtain ⟨ts, k1, k2, k3, k4⟩ := h
 rw [k1, <- k4]; exact Tre.nV ts
section
variable {c : Int -> Bool} {k : Int} {tx : bh} {n m a : Int} {f : Bk} {ts : List Tre} {ns : List Nd}
end
section
variable {L : List Tk} {E : Nat}
end
end Go.Rip
namespace Go.Rip
open Go.Proofs Go.RowKit
section
variable {aG U : St} {v y : AV} {e : TypeId} {sz n m : Nat} {l l2 : List AV} {K' : AV -> St -> Prop} {Kp : AV -> St -> Prop}
theorem NG (h : dZ aG U v e sz n l) (hy : pc U y = some (m, l2)) (hl : l2.length = m * sz) (hb : n + m <= 4294967296)
 (hk : ∀ ae v', dZ aG ae v' e sz (n + m) (l ++ l2) -> (∀ b x, (∀ n l, v ≠ .vec n (.own b) l) -> U.live b = some x -> ae.live b = some x) -> K' v' ae) : (dM (some (e, sz)) false v y U).wp K U K' Kp := by
 by_cases hm : 0 < m
 · exact wQ h hy hl hm hb hk
 · have hm : m = 0 := by omega
   subst hm
   have pI : l2 = [] := oH.1 (by omega)
   subst pI
   have zx : ∀ ae v', dZ aG ae v' e sz n l -> (∀ b x, (∀ n l, v ≠ .vec n (.own b) l) -> U.live b = some x -> ae.live b = some x) -> K' v' ae := fun ae v' g => hk ae v' (by simpa using g)
   rcases h.g with ⟨rfl, rfl, rfl⟩ | ⟨τ, rfl, ht, xR⟩
   · simp only [dM, hy, if_true, wp_cond, ah]
     exact ⟨by simp, zx _ _ h fun _ _ _ hx => hx⟩
   · have wc : n ≠ 0 := fun e => by have := h.z e; cases this
     simp only [dM, hy, wp_cond]
     refine ⟨by simp, ⟨ht, xR, hb⟩, fun b dm => ?_⟩
     have hf : (U.del τ).live b = none := dm.1
     have nv : ∀ c x, c ≠ τ -> U.live c = some x -> ((U.del τ).new b (.tok ⟨n, e, sz⟩)).live c = some x := fun c x hc hx => by
      refine (bE dm) c x ?_
      show (U.del τ).live c = some x
      rw [lU, if_neg hc]; exact hx
     refine zx _ _ ⟨.inr ⟨b, ?_, uX, xR⟩, fun hz => absurd hz wc, fun n' rA l' hv => ?_, fun c x hx => ?_⟩ fun c x hc hx => ?_
     · show AV.vec (n + 0) (.own b) (l ++ []) = _
       simp
     · simp only [NV.at, AV.vec.injEq, iQ.own.injEq] at hv
       rw [<- hv.2.1]
       by_cases Jm : b = τ
       · subst Jm; exact h.t _ _ _ rfl
       · rw [lU, if_neg Jm] at hf
         exact h.ex.fresh hf
     · refine nv c x (fun e => ?_) (h.ex c x hx)
       subst e
       rw [h.t _ _ _ rfl] at hx; cases hx
     · exact nv c x (fun e => hc n l (by rw [e])) hx
end
theorem dZ.fX {aG U : St} {v : AV} {ns : List Nd} (h : dZ aG U v 43 6 ns.length (bC ns)) : gU U v ns := by
 rcases h.g with ⟨h1, h2, h3⟩ | ⟨τ, r1, _, _⟩
 · exact .inl (.inl ⟨h3, oH.1 h1⟩)
 · exact .inl (.inr ⟨_, r1⟩)
end Go.Rip
namespace Go.Rip
open Go.Proofs Go.RowKit
theorem dZ.apart {RI U ae : St} {v w : AV} {e sz n e2 WK n2 : Nat} {l l2 : List AV} (h : dZ RI U v e sz n l) (bW : e ≠ e2) (k : dZ RI U w e2 WK n2 l2) (hx : cL RI ae) (e1 : ∀ b x, (∀ n l, w ≠ .vec n (.own b) l) -> U.live b = some x -> ae.live b = some x) : dZ RI ae v e sz n l :=
 ⟨h.g.other bW k.g e1, h.z, h.t, hx⟩
end Go.Rip
namespace Go.Rip
open Go.Proofs Go.RowKit
theorem Eb (U : St) (l : List Nd) : gU U (fx l) l := by
 unfold fx
 split
 · rename_i h; subst h; exact .inl (.inl ⟨rfl, rfl⟩)
 · exact .inl (.inr ⟨_, rfl⟩)
theorem KH (l1 l2 : List Nd) (h1 : l1.length <= 1000000) (h2 : l2.length <= 1000000) : Pure K 22 [.agg [fx l1], .agg [fx l2]] (.bool (decide (l1 = l2))) := by
 refine Pure.of (by simp [bV, closed, pq]) rfl (fun U => rfl) fun R hR => ?_
 refine O6 ?_
 unfold QP
 rw [ff rfl]
 intro b1 eH
 rw [ff rfl]
 intro b2 lQ
 have m1 : ((bD ⟨.e, 0⟩).new b1 (.box (ay (.agg [fx l1])))).box b1 = some [fx l1] := aN
 have J5 := (bE lQ (x := .box (ay (.agg [fx l2])))).bj m1
 have m2 : (((bD ⟨.e, 0⟩).new b1 (.box (ay (.agg [fx l1])))).new b2 (.box (ay (.agg [fx l2])))).box b2 = some [fx l2] := aN
 generalize ((bD _).new b1 _).new b2 _ = U at *
 simp only [aV, ah, cr]
 refine eP J5 rfl ?_
 refine eP m2 rfl ?_
 exact SC (Eb _ _) (Eb _ _) h1 h2 (ak.mk (hR _))
end Go.Rip
