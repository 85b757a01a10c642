/- Lemmas for the proof that ParseNames returns true: no conditions. -/
import Derived.Test.YtnfpmiiopiinbaaGreatDoorCards
import Derived.Test.YtnfpmiiopiinbaaGreatDoorTie
import Derived.KernelRfl
namespace Go.Proofs.YtnfpmiiopiinbaaGreatDoor.parseNames
set_option maxRecDepth 100000
theorem c1 : Rows.parseNamesRow.wfByText (OpenSpec.ofChange Rows.parseNamesSpec) = true := by kernel_rfl
theorem c2 : Tryz.pinned.checked.prog.mainIs = some (true, "2c276ba2bcf7a791c1ef8ab8c98a8a21e976480ca404c5915ae7b1848dce5b58".toList) := by kernel_rfl
end Go.Proofs.YtnfpmiiopiinbaaGreatDoor.parseNames

namespace Go.Proofs.YtnfpmiiopiinbaaGreatDoor.parseNames
set_option maxRecDepth 100000
theorem c3 : false = Rows.parseNamesRow.goesBy Tryz.pinned.checked.prog := by kernel_rfl
end Go.Proofs.YtnfpmiiopiinbaaGreatDoor.parseNames

namespace Go.Proofs.YtnfpmiiopiinbaaGreatDoor.parseNames
set_option maxRecDepth 100000
theorem c4 : true = Tryz.pinned.checked.prog.looks [] := by kernel_rfl
theorem plain (f : FuncId) (fn : Func) (hf : Tryz.pinned.checked.prog.funcNamed Rows.parseNamesRow.func = some f) (hfn : Tryz.pinned.checked.prog.funcs[f]? = some fn) :
    true = Tryz.pinned.checked.prog.looks [] ∧ ∀ (j : Nat) t, fn.params[j]? = some t → Tryz.pinned.checked.prog.wantsStandIn t = false := by
  obtain rfl : f = 16 := Option.some.inj ((show Tryz.prog.funcNamed "riposte/ripostelaw02.ParseNames" = some 16 by kernel_rfl).symm.trans hf) |>.symm
  obtain rfl : fn = Tryz.f16 := (Option.some.inj (Tryz.func16.symm.trans hfn)).symm
  refine ⟨c4, fun j t ht => ?_⟩
  rw [Tryz.params16] at ht
  simp at ht
end Go.Proofs.YtnfpmiiopiinbaaGreatDoor.parseNames
