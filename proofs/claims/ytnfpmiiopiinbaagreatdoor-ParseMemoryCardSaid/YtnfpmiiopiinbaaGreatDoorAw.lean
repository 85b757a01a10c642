import Derived.Test.YtnfpmiiopiinbaaGreatDoorAw18
import Derived.Test.YtnfpmiiopiinbaaGreatDoorAw28
import Derived.Test.YtnfpmiiopiinbaaGreatDoorAw20
set_option linter.all false
set_option maxRecDepth 100000
namespace Go.Rip
def ahS:Pure K 26 [.agg [.vec 6 .lC [co 1,.str [],bv 0,bv 0,bv 0,bv 6,co 4,.str [102],bv 0,bv 0,bv 0,bv 5,co 6,.str [],bv 2,bv 0,bv 11,bv 1,co 21,.str [],bv 0,bv 0,bv 17,bv 3,co 33,.str [120],bv 0,bv 0,bv 16,bv 1,co 26,.str [],bv 1,bv 0,bv 18,bv 1]]] (.agg [.vec 6 .lC [co 1,.str [],bv 0,bv 0,bv 0,bv 6,co 4,.str [102],bv 0,bv 0,bv 0,bv 5,co 6,.str [],bv 2,bv 0,bv 11,bv 1,co 21,.str [],bv 0,bv 0,bv 17,bv 3,co 33,.str [120],bv 0,bv 0,bv 16,bv 1,co 26,.str [],bv 1,bv 0,bv 18,bv 1]]):=Pure.iz (V:=V2) QT 1000 10 kY (by kernel_rfl)
end Go.Rip
set_option maxRecDepth 100000
namespace Go.Rip
def smA:List (Nat×List AV×AV):=[(18,[.str [101,120,112,111,114,116,32,102,40,41,58,98,111,111,108,61,120,60,49,59]],(.az [.agg [.vec 6 .lC [co 1,.str [],bv 0,bv 0,bv 0,bv 6,co 4,.str [102],bv 0,bv 0,bv 0,bv 5,co 6,.str [],bv 2,bv 0,bv 11,bv 1,co 21,.str [],bv 0,bv 0,bv 17,bv 3,co 33,.str [120],bv 0,bv 0,bv 16,bv 1,co 26,.str [],bv 1,bv 0,bv 18,bv 1]],bv 0,bv 0])),
 (26,[.agg [.vec 6 .lC [co 1,.str [],bv 0,bv 0,bv 0,bv 6,co 4,.str [102],bv 0,bv 0,bv 0,bv 5,co 6,.str [],bv 2,bv 0,bv 11,bv 1,co 21,.str [],bv 0,bv 0,bv 17,bv 3,co 33,.str [120],bv 0,bv 0,bv 16,bv 1,co 26,.str [],bv 1,bv 0,bv 18,bv 1]]],(.agg [.vec 6 .lC [co 1,.str [],bv 0,bv 0,bv 0,bv 6,co 4,.str [102],bv 0,bv 0,bv 0,bv 5,co 6,.str [],bv 2,bv 0,bv 11,bv 1,co 21,.str [],bv 0,bv 0,bv 17,bv 3,co 33,.str [120],bv 0,bv 0,bv 16,bv 1,co 26,.str [],bv 1,bv 0,bv 18,bv 1]])),
 (28,[.agg [.vec 6 .lC [co 1,.str [],bv 0,bv 0,bv 0,bv 6,co 4,.str [102],bv 0,bv 0,bv 0,bv 5,co 6,.str [],bv 2,bv 0,bv 11,bv 1,co 21,.str [],bv 0,bv 0,bv 17,bv 3,co 33,.str [120],bv 0,bv 0,bv 16,bv 1,co 26,.str [],bv 1,bv 0,bv 18,bv 1]],bv 3],(.az [.str [120,60,49],bv 0])),
 (20,[.str [100,101,102,32,102,40,59,32,100,101,102,32,103,40,41,58,99,111,109,61,97,59]],(.az [.agg [.vec 4 .lC [co 1,.str [],bv 0,bv 0,bv 0,bv 4,co 3,.str [103],bv 0,bv 0,bv 8,bv 3,co 6,.str [],bv 1,bv 0,bv 16,bv 1,co 33,.str [97],bv 0,bv 0,bv 20,bv 1]],.vec 1 .lC [bv 6,bv 4],bv 0]))]
def ahn:∀x∈smA,Pure K x.1 x.2.1 x.2.2:=by
 intro x hx;simp only[smA,dy,List.not_mem_nil,or_false]at hx;rcases hx with rfl|rfl|rfl|rfl
 . exact ahQ
 . exact ahS
 . exact ahT
 . exact ahR
noncomputable def V3:kV:=⟨K,mu0,pfV,smT smA,SJ,λf=>Nat.beq f 54,136,λ_ _=>none⟩
def ajc:uL V3:=⟨ZM ahn,QC,λf h=>by have:=gN h;subst this;exact Gf,Lg⟩
def Bj:Pure K 17 [] (.bool true):=Pure.iz (V:=V3) ajc 1000 10 kY (by kernel_rfl)
end Go.Rip
