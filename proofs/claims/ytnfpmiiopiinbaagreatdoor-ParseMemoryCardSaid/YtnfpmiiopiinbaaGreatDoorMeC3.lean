import Derived.Test.YtnfpmiiopiinbaaGreatDoorCards
import Derived.KernelRfl
import Derived.Test.YtnfpmiiopiinbaaGreatDoorMeT
namespace Go.Proofs.YtnfpmiiopiinbaaGreatDoor.parseMemory
set_option maxRecDepth 100000
theorem c4:true=Tryz.pinned.checked.prog.looks []:=by kernel_rfl
theorem want25:Tryz.pinned.checked.prog.wantsStandIn 25=false:=by kernel_rfl
theorem want9:Tryz.pinned.checked.prog.wantsStandIn 9=false:=by kernel_rfl
theorem plain (f:FuncId) (fn:Func) (hf:Tryz.pinned.checked.prog.funcNamed Rows.parseMemoryRow.func=some f) (hfn:Tryz.pinned.checked.prog.funcs[f]?=some fn) :
 true=Tryz.pinned.checked.prog.looks []/\∀ (j:Nat) t,fn.params[j]?=some t->Tryz.pinned.checked.prog.wantsStandIn t=false:=by
 obtain rfl:f=5:=Option.some.inj ((show Tryz.prog.funcNamed "riposte/ripostelaw02.ParseMemory" = some 5 by kernel_rfl).symm.trans hf) |>.symm
 obtain rfl:fn=Tryz.f5:=(Option.some.inj (Tryz.func5.symm.trans hfn)).symm;refine⟨c4,λ j t ht=>?_⟩;rw[Tryz.params5]at ht;have hm:=Array.mem_of_getElem? ht;simp only[List.mem_toArray,List.mem_cons,List.not_mem_nil,or_false]at hm;rcases hm with rfl|rfl
 all_goals first|exact want25|exact want9
end Go.Proofs.YtnfpmiiopiinbaaGreatDoor.parseMemory
