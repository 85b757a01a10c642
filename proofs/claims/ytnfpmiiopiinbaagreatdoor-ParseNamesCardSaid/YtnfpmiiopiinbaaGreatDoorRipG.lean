/- Lemmas for the proof that ParseNames returns true: no conditions. -/
import Derived.Test.YtnfpmiiopiinbaaGreatDoorCards
import Derived.Test.YtnfpmiiopiinbaaGreatDoorTie
import Derived.Test.YtnfpmiiopiinbaaGreatDoorRipFaNamesJ
import Derived.Test.YtnfpmiiopiinbaaGreatDoorRipL5h1
import Derived.Test.YtnfpmiiopiinbaaGreatDoorRipL5h2
import Derived.Test.YtnfpmiiopiinbaaGreatDoorRipL5h3
import Derived.Test.YtnfpmiiopiinbaaGreatDoorRipL5h4
import Derived.Test.YtnfpmiiopiinbaaGreatDoorRipL5v
import Derived.Test.YtnfpmiiopiinbaaGreatDoorRipL5w
import Derived.Test.YtnfpmiiopiinbaaGreatDoorRipNw
import Derived.Test.YtnfpmiiopiinbaaGreatDoorRipNm11
import Derived.OpenShut
import Derived.Below
namespace Go.Proofs.YtnfpmiiopiinbaaGreatDoor.parseNames
open Go.ChangeShapes Go.WideShapes Go.ChangeAt Go.RowKit
set_option maxRecDepth 100000
theorem laid_met (os : Os) (args : Array Value) : laidMet Tryz.prog Rows.parseNamesRow.laid ((laid.laidWorld os).forCall (fun _ _ => 0) ⟨#[], args, []⟩).memory :=
  (LaidIn.of_run (List.range 60) 8 (laid.h1 os args) (laid.h2 os args) (laid.h3 os args) (laid.h4 os args)).met
theorem walk (W : World) (hL : laidMetH Tryz.prog Rows.parseNamesRow.laid W) : Calls Tryz.prog 16 #[] W fun e w' => e = .returned (.bool true) ∧ Below W.heap.size W w' :=
  Go.Rip.Pure.walk Go.Rip.nm_35 (Go.Rip.tab0 hL) (Go.Rip.tab7 hL)
theorem lifted (os : Os) (started : os.Started) (H : Type) (enc : TypeId × Value → H) (F : Stop.Interp) :
    ReturnsInHanded {} Tryz.checked os 16 .any ((OpenSpec.ofChange Rows.parseNamesSpec).preRow enc Tryz.prog Tryz.f16 Rows.parseNamesRow.domain false Rows.parseNamesRow.laid) (((OpenSpec.ofChange Rows.parseNamesSpec).at F).post enc Tryz.prog Tryz.f16 false true false false) := by
  obtain ⟨places, hx⟩ := laid.reads os enc
  refine returnsInHanded_of_row (C := Tryz.checked) (s := OpenSpec.ofChange Rows.parseNamesSpec) laid.knobs started (by kernel_rfl) Tryz.func16
    (witness_row_atRef (enc := enc) (C := Tryz.checked) false (laid.laidWorld os) #[] rfl (laid.vars_ok os) (laid.rest_ok os) (laid.in_ok os)
      (OpenSpec.preRow_of_cond 8 hx (by kernel_rfl) (fun k hk => by cases hk) (by kernel_rfl) (laid_met os _))) ?_
  intro W base args ds gs before hval hW _ _ _ hL _ _
  have hW' := hW
  obtain ⟨p, q, hA0, hV, rfl, hfz, hnd⟩ := hW
  have hA : DataW.TrodAll enc Tryz.prog W 0 (fun _ => true) true Tryz.f16.params.toList args.toList ds p := hA0
  rw [Tryz.params16] at hA
  obtain ⟨hargs, rfl, rfl⟩ := trodAll_none hA
  obtain rfl : args = #[] := by cases args; simp_all
  obtain ⟨rfl, rfl⟩ := trodVars_none hV
  refine (walk W hL).mono fun e W' ⟨he, bel⟩ => ?_
  subst he
  exact ⟨_, rfl, _, _, _, [], _, [], hW', trodAll_mk1 (shut_bool Tryz.underlying4 _), trodAll_mk0, rfl, bel.frame _, fun h => by cases h⟩
theorem said : Rows.ParseNamesSaid :=
  OpenClaim.holds_of_cond 16 Tryz.f16 rfl rfl rfl rfl rfl rfl rfl ⟨rfl, rfl, rfl, rfl, rfl⟩ rfl rfl rfl rfl rfl (by kernel_rfl) Tryz.func16 facts
    (of_decide_eq_true (by kernel_rfl)) (by unfold Func.isWrapper; first | (rw [if_pos (by decide +kernel)]; kernel_rfl) | (rw [if_neg (by decide +kernel)]; exact ⟨rfl, rfl⟩))
    (fun os started H enc _ F => by rw [OpenClaim.pre_eq_preRow]; exact lifted os started H enc F)
end Go.Proofs.YtnfpmiiopiinbaaGreatDoor.parseNames
