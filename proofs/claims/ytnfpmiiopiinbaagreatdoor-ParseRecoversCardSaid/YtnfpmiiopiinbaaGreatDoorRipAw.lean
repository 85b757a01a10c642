/- Lemmas for the proof: no conditions. -/
import Derived.Test.YtnfpmiiopiinbaaGreatDoorRipZz
import Derived.Test.YtnfpmiiopiinbaaGreatDoorRipH
import Derived.Test.YtnfpmiiopiinbaaGreatDoorRipAw18
import Derived.Test.YtnfpmiiopiinbaaGreatDoorRipAw28
import Derived.Test.YtnfpmiiopiinbaaGreatDoorRipAw20
set_option linter.unusedVariables false
set_option linter.unusedSimpArgs false
set_option linter.loopingSimpArgs false
set_option maxRecDepth 100000
namespace Go.Rip
theorem Yt:Pure K 26 [.agg [.vec 6 .eR [.int .u8 1,.str [],.int .i64 0,.int .i64 0,.int .i64 0,.int .i64 6,.int .u8 4,.str [102],.int .i64 0,.int .i64 0,.int .i64 0,.int .i64 5,.int .u8 6,.str [],.int .i64 2,.int .i64 0,.int .i64 11,.int .i64 1,.int .u8 21,.str [],.int .i64 0,.int .i64 0,.int .i64 17,.int .i64 3,.int .u8 33,.str [120],.int .i64 0,.int .i64 0,.int .i64 16,.int .i64 1,.int .u8 26,.str [],.int .i64 1,.int .i64 0,.int .i64 18,.int .i64 1]]] (.agg [.vec 6 .eR [.int .u8 1,.str [],.int .i64 0,.int .i64 0,.int .i64 0,.int .i64 6,.int .u8 4,.str [102],.int .i64 0,.int .i64 0,.int .i64 0,.int .i64 5,.int .u8 6,.str [],.int .i64 2,.int .i64 0,.int .i64 11,.int .i64 1,.int .u8 21,.str [],.int .i64 0,.int .i64 0,.int .i64 17,.int .i64 3,.int .u8 33,.str [120],.int .i64 0,.int .i64 0,.int .i64 16,.int .i64 1,.int .u8 26,.str [],.int .i64 1,.int .i64 0,.int .i64 18,.int .i64 1]]):=Pure.dX (V:=V2) Io 1000 10 gj (by kernel_rfl)
end Go.Rip
set_option maxRecDepth 100000
namespace Go.Rip
def Xi:List (Nat×List AV×AV):=[(18,[.str [101,120,112,111,114,116,32,102,40,41,58,98,111,111,108,61,120,60,49,59]],(.aQ [.agg [.vec 6 .eR [.int .u8 1,.str [],.int .i64 0,.int .i64 0,.int .i64 0,.int .i64 6,.int .u8 4,.str [102],.int .i64 0,.int .i64 0,.int .i64 0,.int .i64 5,.int .u8 6,.str [],.int .i64 2,.int .i64 0,.int .i64 11,.int .i64 1,.int .u8 21,.str [],.int .i64 0,.int .i64 0,.int .i64 17,.int .i64 3,.int .u8 33,.str [120],.int .i64 0,.int .i64 0,.int .i64 16,.int .i64 1,.int .u8 26,.str [],.int .i64 1,.int .i64 0,.int .i64 18,.int .i64 1]],.int .i64 0,.int .i64 0])),
 (26,[.agg [.vec 6 .eR [.int .u8 1,.str [],.int .i64 0,.int .i64 0,.int .i64 0,.int .i64 6,.int .u8 4,.str [102],.int .i64 0,.int .i64 0,.int .i64 0,.int .i64 5,.int .u8 6,.str [],.int .i64 2,.int .i64 0,.int .i64 11,.int .i64 1,.int .u8 21,.str [],.int .i64 0,.int .i64 0,.int .i64 17,.int .i64 3,.int .u8 33,.str [120],.int .i64 0,.int .i64 0,.int .i64 16,.int .i64 1,.int .u8 26,.str [],.int .i64 1,.int .i64 0,.int .i64 18,.int .i64 1]]],(.agg [.vec 6 .eR [.int .u8 1,.str [],.int .i64 0,.int .i64 0,.int .i64 0,.int .i64 6,.int .u8 4,.str [102],.int .i64 0,.int .i64 0,.int .i64 0,.int .i64 5,.int .u8 6,.str [],.int .i64 2,.int .i64 0,.int .i64 11,.int .i64 1,.int .u8 21,.str [],.int .i64 0,.int .i64 0,.int .i64 17,.int .i64 3,.int .u8 33,.str [120],.int .i64 0,.int .i64 0,.int .i64 16,.int .i64 1,.int .u8 26,.str [],.int .i64 1,.int .i64 0,.int .i64 18,.int .i64 1]])),
 (28,[.agg [.vec 6 .eR [.int .u8 1,.str [],.int .i64 0,.int .i64 0,.int .i64 0,.int .i64 6,.int .u8 4,.str [102],.int .i64 0,.int .i64 0,.int .i64 0,.int .i64 5,.int .u8 6,.str [],.int .i64 2,.int .i64 0,.int .i64 11,.int .i64 1,.int .u8 21,.str [],.int .i64 0,.int .i64 0,.int .i64 17,.int .i64 3,.int .u8 33,.str [120],.int .i64 0,.int .i64 0,.int .i64 16,.int .i64 1,.int .u8 26,.str [],.int .i64 1,.int .i64 0,.int .i64 18,.int .i64 1]],.int .i64 3],(.aQ [.str [120,60,49],.int .i64 0])),
 (20,[.str [100,101,102,32,102,40,59,32,100,101,102,32,103,40,41,58,99,111,109,61,97,59]],(.aQ [.agg [.vec 4 .eR [.int .u8 1,.str [],.int .i64 0,.int .i64 0,.int .i64 0,.int .i64 4,.int .u8 3,.str [103],.int .i64 0,.int .i64 0,.int .i64 8,.int .i64 3,.int .u8 6,.str [],.int .i64 1,.int .i64 0,.int .i64 16,.int .i64 1,.int .u8 33,.str [97],.int .i64 0,.int .i64 0,.int .i64 20,.int .i64 1]],.vec 1 .eR [.int .i64 6,.int .i64 4],.int .i64 0]))]
theorem Xj:∀ x∈Xi,Pure K x.1 x.2.1 x.2.2:=by
 intro x hx;simp only[Xi,fe,List.not_mem_nil,or_false]at hx;rcases hx with rfl|rfl|rfl|rfl
 . exact Yr
 . exact Yt
 . exact Yu
 . exact Ys
noncomputable def V3:gd:=⟨K,RM,pfV,Sj Xi,JV,λ f=>Nat.beq f 54,136,λ _ _=>none⟩
theorem aai:o9 V3:=⟨Oc Xj,Ih,λ f h=>by have:=dF h; subst this; exact zz,BZ⟩
theorem oA:Pure K 17 [] (.bool true):=Pure.dX (V:=V3) aai 1000 10 gj (by kernel_rfl)
end Go.Rip
