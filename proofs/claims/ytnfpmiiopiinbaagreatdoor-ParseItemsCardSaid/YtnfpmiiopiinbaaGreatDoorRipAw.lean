/- Lemmas for the proof: no conditions. -/
import Derived.Test.YtnfpmiiopiinbaaGreatDoorRipZz
import Derived.Test.YtnfpmiiopiinbaaGreatDoorRipH
import Derived.Test.YtnfpmiiopiinbaaGreatDoorRipAw18
import Derived.Test.YtnfpmiiopiinbaaGreatDoorRipAw28
import Derived.Test.YtnfpmiiopiinbaaGreatDoorRipAw20
set_option linter.unusedVariables false
set_option linter.unusedSimpArgs false
set_option linter.loopingSimpArgs false
set_option maxRecDepth 100000
namespace Go.Rip
theorem aaW:Pure K 26 [.agg [.vec 6 .jD [.int .u8 1,.str [],.int .i64 0,.int .i64 0,.int .i64 0,.int .i64 6,.int .u8 4,.str [102],.int .i64 0,.int .i64 0,.int .i64 0,.int .i64 5,.int .u8 6,.str [],.int .i64 2,.int .i64 0,.int .i64 11,.int .i64 1,.int .u8 21,.str [],.int .i64 0,.int .i64 0,.int .i64 17,.int .i64 3,.int .u8 33,.str [120],.int .i64 0,.int .i64 0,.int .i64 16,.int .i64 1,.int .u8 26,.str [],.int .i64 1,.int .i64 0,.int .i64 18,.int .i64 1]]] (.agg [.vec 6 .jD [.int .u8 1,.str [],.int .i64 0,.int .i64 0,.int .i64 0,.int .i64 6,.int .u8 4,.str [102],.int .i64 0,.int .i64 0,.int .i64 0,.int .i64 5,.int .u8 6,.str [],.int .i64 2,.int .i64 0,.int .i64 11,.int .i64 1,.int .u8 21,.str [],.int .i64 0,.int .i64 0,.int .i64 17,.int .i64 3,.int .u8 33,.str [120],.int .i64 0,.int .i64 0,.int .i64 16,.int .i64 1,.int .u8 26,.str [],.int .i64 1,.int .i64 0,.int .i64 18,.int .i64 1]]):=Pure.eQ (V:=V2) Jk 1000 10 gS (by kernel_rfl)
end Go.Rip
set_option maxRecDepth 100000
namespace Go.Rip
def Zu:List (Nat × List AV × AV):=[(18,[.str [101,120,112,111,114,116,32,102,40,41,58,98,111,111,108,61,120,60,49,59]],(.aF [.agg [.vec 6 .jD [.int .u8 1,.str [],.int .i64 0,.int .i64 0,.int .i64 0,.int .i64 6,.int .u8 4,.str [102],.int .i64 0,.int .i64 0,.int .i64 0,.int .i64 5,.int .u8 6,.str [],.int .i64 2,.int .i64 0,.int .i64 11,.int .i64 1,.int .u8 21,.str [],.int .i64 0,.int .i64 0,.int .i64 17,.int .i64 3,.int .u8 33,.str [120],.int .i64 0,.int .i64 0,.int .i64 16,.int .i64 1,.int .u8 26,.str [],.int .i64 1,.int .i64 0,.int .i64 18,.int .i64 1]],.int .i64 0,.int .i64 0])),
 (26,[.agg [.vec 6 .jD [.int .u8 1,.str [],.int .i64 0,.int .i64 0,.int .i64 0,.int .i64 6,.int .u8 4,.str [102],.int .i64 0,.int .i64 0,.int .i64 0,.int .i64 5,.int .u8 6,.str [],.int .i64 2,.int .i64 0,.int .i64 11,.int .i64 1,.int .u8 21,.str [],.int .i64 0,.int .i64 0,.int .i64 17,.int .i64 3,.int .u8 33,.str [120],.int .i64 0,.int .i64 0,.int .i64 16,.int .i64 1,.int .u8 26,.str [],.int .i64 1,.int .i64 0,.int .i64 18,.int .i64 1]]],(.agg [.vec 6 .jD [.int .u8 1,.str [],.int .i64 0,.int .i64 0,.int .i64 0,.int .i64 6,.int .u8 4,.str [102],.int .i64 0,.int .i64 0,.int .i64 0,.int .i64 5,.int .u8 6,.str [],.int .i64 2,.int .i64 0,.int .i64 11,.int .i64 1,.int .u8 21,.str [],.int .i64 0,.int .i64 0,.int .i64 17,.int .i64 3,.int .u8 33,.str [120],.int .i64 0,.int .i64 0,.int .i64 16,.int .i64 1,.int .u8 26,.str [],.int .i64 1,.int .i64 0,.int .i64 18,.int .i64 1]])),
 (28,[.agg [.vec 6 .jD [.int .u8 1,.str [],.int .i64 0,.int .i64 0,.int .i64 0,.int .i64 6,.int .u8 4,.str [102],.int .i64 0,.int .i64 0,.int .i64 0,.int .i64 5,.int .u8 6,.str [],.int .i64 2,.int .i64 0,.int .i64 11,.int .i64 1,.int .u8 21,.str [],.int .i64 0,.int .i64 0,.int .i64 17,.int .i64 3,.int .u8 33,.str [120],.int .i64 0,.int .i64 0,.int .i64 16,.int .i64 1,.int .u8 26,.str [],.int .i64 1,.int .i64 0,.int .i64 18,.int .i64 1]],.int .i64 3],(.aF [.str [120,60,49],.int .i64 0])),
 (20,[.str [100,101,102,32,102,40,59,32,100,101,102,32,103,40,41,58,99,111,109,61,97,59]],(.aF [.agg [.vec 4 .jD [.int .u8 1,.str [],.int .i64 0,.int .i64 0,.int .i64 0,.int .i64 4,.int .u8 3,.str [103],.int .i64 0,.int .i64 0,.int .i64 8,.int .i64 3,.int .u8 6,.str [],.int .i64 1,.int .i64 0,.int .i64 16,.int .i64 1,.int .u8 33,.str [97],.int .i64 0,.int .i64 0,.int .i64 20,.int .i64 1]],.vec 1 .jD [.int .i64 6,.int .i64 4],.int .i64 0]))]
theorem Zv:∀ x ∈ Zu,Pure K x.1 x.2.1 x.2.2:=by
 intro x hx
 simp only [Zu,cD,List.not_mem_nil,or_false] at hx
 rcases hx with rfl | rfl | rfl | rfl
 . exact aaU
 . exact aaW
 . exact aaX
 . exact aaV
noncomputable def V3:gM:=⟨K,Tp,pfV,T9 Zu,KU,fun f=>Nat.beq f 54,136,fun _ _=>none⟩
theorem acC:pY V3:=⟨PM Zv,Je,fun f h=>by have:=ey h; subst this; exact G6,EM⟩
theorem rp:Pure K 17 [] (.bool true):=Pure.eQ (V:=V3) acC 1000 10 gS (by kernel_rfl)
end Go.Rip
