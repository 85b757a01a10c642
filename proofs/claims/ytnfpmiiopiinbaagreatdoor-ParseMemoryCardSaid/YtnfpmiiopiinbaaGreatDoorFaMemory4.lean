import Derived.Test.YtnfpmiiopiinbaaGreatDoorRows
import Derived.WalkKit
import Derived.ProofKit
import Derived.Deep.DeepHandedRow
import Derived.KernelRfl
namespace Go.Proofs.YtnfpmiiopiinbaaGreatDoor.parseMemory
set_option maxRecDepth 100000
theorem fact1:Rows.parseMemoryRow.wf (OpenSpec.ofChange (OpenSpec.ofChange Rows.parseMemorySpec).bare)=true:=by kernel_rfl
theorem fact2:laidOutB Tryz.pinned.checked.prog=true:=by kernel_rfl
theorem fact3:mapsRowed Tryz.pinned.checked.prog=true:=by kernel_rfl
theorem fact4:Tryz.f5.params.all (Tryz.pinned.checked.prog.readableRec ·)=true:=by kernel_rfl
theorem fact5:namedTie Tryz.pinned.checked.prog Rows.parseMemoryRow.named (OpenSpec.ofChange Rows.parseMemorySpec).bare.vars=true:=by kernel_rfl
end Go.Proofs.YtnfpmiiopiinbaaGreatDoor.parseMemory
