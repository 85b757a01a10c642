/- Lemmas for the proof: no conditions. -/
import Derived.Test.YtnfpmiiopiinbaaGreatDoorRipZz
import Derived.Test.YtnfpmiiopiinbaaGreatDoorRipE
import Derived.Test.YtnfpmiiopiinbaaGreatDoorRipD
import Derived.Test.YtnfpmiiopiinbaaGreatDoorRipB
import Derived.Test.YtnfpmiiopiinbaaGreatDoorRipG
import Derived.Test.YtnfpmiiopiinbaaGreatDoorRipC
set_option linter.unusedVariables false
set_option linter.unusedSimpArgs false
set_option linter.loopingSimpArgs false
set_option maxRecDepth 100000
namespace Go.Rip
open Go.Proofs
def Sj (l:List (Nat×List AV×AV)) (f:Nat) (args:List AV):Option AV:=match l.find? (λ x=>Nat.beq x.1 f&&nf x.2.1 args) with
 | some x=>some x.2.2
 | none=>none
theorem Oc {l:List (Nat×List AV×AV)} (h:∀ x∈l,Pure K x.1 x.2.1 x.2.2) (f:Nat) (args:List AV) (x:AV) (hx:Sj l f args=some x):Pure K f args x:=by
 unfold Sj at hx;split at hx
 . rename_i y hy;cases hx;have h1:=List.find?_some hy;simp only[bV]at h1;have e1:=dF h1.1;have e2:=iW h1.2;have:=h y (List.mem_of_find?_eq_some hy);rw[e1,e2]at this;exact this
 . cases hx
theorem gj:∀ i,closed (K.wh i)=true:=λ i=>by
 show closed (if i=0 then .ca tg else if i=7 then .ca tP else .any)=true
 split
 . decide +kernel
 . split
   . decide +kernel
   . rfl
def RM (f:Nat):List Nat:=cond (Nat.beq f 110||(Nat.beq f 69||Nat.beq f 157)) (List.range 100) []
noncomputable def V0:gd:=⟨K,RM,λ _=>false,λ _ _=>none,λ _ _ _=>none,λ _=>false,136,λ _ _=>none⟩
theorem lY:o9 V0:=⟨λ _ _ _ h=>(by cases h),λ _ _ _ _ _ h=>(by cases h),λ _ h=>(by cases h),BZ⟩
def Ba:AV:=.eD [.str [97,110,100],.str [97,115],.str [98,111,111,108],.str [99,101,108,108],.str [99,104,111,111,115,101],.str [99,111,109],.str [100,101,102],.str [100,111],.str [101,108,115,101],.str [101,120,112,111,114,116],.str [102,97,108,115,101],.str [102,110],.str [103,101,116],.str [104,97,110,103],.str [105,102],.str [105,109,112,111,114,116],.str [105,110],.str [105,110,116],.str [106,117,109,112],.str [108,97,98,101,108],.str [110,101,119],.str [110,111,116],.str [110,111,116,105,99,101],.str [111,102],.str [111,114],.str [112,117,116],.str [115,107,105,112],.str [116,104,101,110],.str [116,114,117,101],.str [119,104,105,108,101]] [.bool true,.bool true,.bool true,.bool true,.bool true,.bool true,.bool true,.bool true,.bool true,.bool true,.bool true,.bool true,.bool true,.bool true,.bool true,.bool true,.bool true,.bool true,.bool true,.bool true,.bool true,.bool true,.bool true,.bool true,.bool true,.bool true,.bool true,.bool true,.bool true,.bool true]
def zi:AV:=.eD [.int .i64 2,.int .i64 3,.int .i64 5,.int .i64 6,.int .i64 7,.int .i64 8] [.eD [.str [111,114]] [.int .u8 17],.eD [.str [97,110,100]] [.int .u8 18],.eD [.str [60],.str [61]] [.int .u8 21,.int .u8 20],.eD [.str [43],.str [45]] [.int .u8 22,.int .u8 23],.eD [.str [42]] [.int .u8 24],.eD [.str [97,115]] [.int .u8 25]]
def pb:AV:=.eD [.str [99,104,111,111,115,101],.str [105,102],.str [108,97,98,101,108],.str [110,101,119],.str [110,111,116,105,99,101],.str [119,104,105,108,101]] [.func (.func 162) [] [],.func (.func 158) [] [],.func (.func 161) [] [],.func (.func 160) [] [],.func (.func 163) [] [],.func (.func 159) [] []]
def nB:AV:=.eD [.int .u8 1,.int .u8 2,.int .u8 3,.int .u8 4,.int .u8 5,.int .u8 6,.int .u8 7,.int .u8 8,.int .u8 9,.int .u8 10,.int .u8 11,.int .u8 12,.int .u8 13,.int .u8 14,.int .u8 15,.int .u8 16,.int .u8 17,.int .u8 18,.int .u8 19,.int .u8 20,.int .u8 21,.int .u8 22,.int .u8 23,.int .u8 24,.int .u8 25,.int .u8 26,.int .u8 27,.int .u8 28,.int .u8 29,.int .u8 30,.int .u8 31,.int .u8 32,.int .u8 33,.int .u8 34,.int .u8 35,.int .u8 36,.int .u8 37] [.agg [.bool false,.bool false,.bool false,.vec 1 .full [.func (.func 179) [] [],.int .i64 0,.int .i64 900]],.agg [.bool true,.bool false,.bool false,.vec 1 .full [.func (.func 181) [] [],.int .i64 1,.int .i64 1]],.agg [.bool true,.bool false,.bool false,.vec 3 .full [.func (.func 242) [] [.ca [.int .u8 5]],.int .i64 0,.int .i64 900,.func (.func 206) [] [],.int .i64 1,.int .i64 1,.func (.func 185) [] [],.int .i64 1,.int .i64 1]],.agg [.bool true,.bool false,.bool false,.vec 3 .full [.func (.func 242) [] [.ca [.int .u8 5]],.int .i64 0,.int .i64 900,.func (.func 206) [] [],.int .i64 1,.int .i64 1,.func (.func 185) [] [],.int .i64 1,.int .i64 1]],.agg [.bool true,.bool false,.bool false,.vec 1 .full [.func (.func 181) [] [],.int .i64 1,.int .i64 1]],.agg [.bool false,.bool true,.bool false,.ag],.agg [.bool false,.bool true,.bool false,.ag],.agg [.bool false,.bool false,.bool false,.vec 1 .full [.func (.func 206) [] [],.int .i64 2,.int .i64 900]],.agg [.bool false,.bool false,.bool false,.vec 1 .full [.func (.func 185) [] [],.int .i64 2,.int .i64 900]],.agg [.bool false,.bool false,.bool false,.vec 1 .full [.func (.func 185) [] [],.int .i64 3,.int .i64 3]],.agg [.bool false,.bool false,.bool false,.vec 1 .full [.func (.func 185) [] [],.int .i64 2,.int .i64 2]],.agg [.bool true,.bool true,.bool true,.vec 1 .full [.func (.func 185) [] [],.int .i64 1,.int .i64 1]],.agg [.bool true,.bool false,.bool false,.vec 1 .full [.func (.func 185) [] [],.int .i64 2,.int .i64 2]],.agg [.bool true,.bool true,.bool false,.vec 1 .full [.func (.func 185) [] [],.int .i64 1,.int .i64 1]],.agg [.bool false,.bool false,.bool false,.vec 1 .full [.func (.func 185) [] [],.int .i64 2,.int .i64 2]],.agg [.bool true,.bool false,.bool false,.vec 1 .full [.func (.func 185) [] [],.int .i64 1,.int .i64 1]],.agg [.bool false,.bool false,.bool false,.vec 1 .full [.func (.func 185) [] [],.int .i64 2,.int .i64 2]],.agg [.bool false,.bool false,.bool false,.vec 1 .full [.func (.func 185) [] [],.int .i64 2,.int .i64 2]],.agg [.bool false,.bool false,.bool false,.vec 1 .full [.func (.func 185) [] [],.int .i64 1,.int .i64 1]],.agg [.bool false,.bool false,.bool false,.vec 1 .full [.func (.func 185) [] [],.int .i64 2,.int .i64 2]],.agg [.bool false,.bool false,.bool false,.vec 1 .full [.func (.func 185) [] [],.int .i64 2,.int .i64 2]],.agg [.bool false,.bool false,.bool false,.vec 1 .full [.func (.func 185) [] [],.int .i64 2,.int .i64 2]],.agg [.bool false,.bool false,.bool false,.vec 1 .full [.func (.func 185) [] [],.int .i64 2,.int .i64 2]],.agg [.bool false,.bool false,.bool false,.vec 1 .full [.func (.func 185) [] [],.int .i64 2,.int .i64 2]],.agg [.bool false,.bool true,.bool false,.vec 1 .full [.func (.func 185) [] [],.int .i64 1,.int .i64 1]],.agg [.bool false,.bool true,.bool false,.ag],.agg [.bool false,.bool false,.bool false,.ag],.agg [.bool false,.bool false,.bool false,.ag],.agg [.bool false,.bool false,.bool false,.ag],.agg [.bool false,.bool false,.bool false,.ag],.agg [.bool true,.bool false,.bool false,.ag],.agg [.bool true,.bool false,.bool false,.ag],.agg [.bool true,.bool false,.bool false,.ag],.agg [.bool true,.bool false,.bool false,.vec 1 .full [.func (.func 207) [] [],.int .i64 1,.int .i64 900]],.agg [.bool false,.bool false,.bool false,.vec 2 .full [.func (.func 242) [] [.ca [.int .u8 37]],.int .i64 1,.int .i64 900,.func (.func 185) [] [],.int .i64 1,.int .i64 1]],.agg [.bool false,.bool false,.bool false,.vec 3 .full [.func (.func 185) [] [],.int .i64 1,.int .i64 1,.func (.func 242) [] [.ca [.int .u8 37]],.int .i64 1,.int .i64 1,.func (.func 185) [] [],.int .i64 1,.int .i64 1]],.agg [.bool true,.bool false,.bool false,.ag]]
theorem Bc:Pure K 153 [] Ba:=Pure.dX (V:=V0) lY 1000 10 gj (by kernel_rfl)
theorem Fm:Pure K 96 [] zi:=Pure.dX (V:=V0) lY 1000 10 gj (by kernel_rfl)
theorem yn:Pure K 97 [] pb:=Pure.dX (V:=V0) lY 1000 10 gj (by kernel_rfl)
def gL (n:Nat):AV:=.func (.func n) [] []
def ni (n:Int):AV:=.func (.func 242) [] [.ca [.int .u8 n]]
theorem so0:Pure K 202 [.int .i64 2,gL 185] (.agg [gL 185,.int .i64 2,.int .i64 2]):=Pure.dX (V:=V0) lY 1000 10 gj (by kernel_rfl)
theorem so1:Pure K 202 [.int .i64 3,gL 185] (.agg [gL 185,.int .i64 3,.int .i64 3]):=Pure.dX (V:=V0) lY 1000 10 gj (by kernel_rfl)
theorem so2:Pure K 203 [.int .i64 0,gL 179] (.agg [gL 179,.int .i64 0,.int .i64 900]):=Pure.dX (V:=V0) lY 1000 10 gj (by kernel_rfl)
theorem so3:Pure K 203 [.int .i64 2,gL 206] (.agg [gL 206,.int .i64 2,.int .i64 900]):=Pure.dX (V:=V0) lY 1000 10 gj (by kernel_rfl)
theorem so4:Pure K 203 [.int .i64 2,gL 185] (.agg [gL 185,.int .i64 2,.int .i64 900]):=Pure.dX (V:=V0) lY 1000 10 gj (by kernel_rfl)
theorem so5:Pure K 203 [.int .i64 1,gL 207] (.agg [gL 207,.int .i64 1,.int .i64 900]):=Pure.dX (V:=V0) lY 1000 10 gj (by kernel_rfl)
theorem so6:Pure K 203 [.int .i64 1,ni 37] (.agg [ni 37,.int .i64 1,.int .i64 900]):=Pure.dX (V:=V0) lY 1000 10 gj (by kernel_rfl)
theorem so7:Pure K 203 [.int .i64 0,ni 5] (.agg [ni 5,.int .i64 0,.int .i64 900]):=Pure.dX (V:=V0) lY 1000 10 gj (by kernel_rfl)
theorem so8:Pure K 205 [gL 181] (.agg [gL 181,.int .i64 1,.int .i64 1]):=Pure.dX (V:=V0) lY 1000 10 gj (by kernel_rfl)
theorem so9:Pure K 205 [gL 185] (.agg [gL 185,.int .i64 1,.int .i64 1]):=Pure.dX (V:=V0) lY 1000 10 gj (by kernel_rfl)
theorem abk:Pure K 205 [gL 206] (.agg [gL 206,.int .i64 1,.int .i64 1]):=Pure.dX (V:=V0) lY 1000 10 gj (by kernel_rfl)
theorem abl:Pure K 205 [ni 37] (.agg [ni 37,.int .i64 1,.int .i64 1]):=Pure.dX (V:=V0) lY 1000 10 gj (by kernel_rfl)
theorem abm:Pure K 204 [.int .u8 5] (ni 5):=Pure.dX (V:=V0) lY 1000 10 gj (by kernel_rfl)
theorem abn:Pure K 204 [.int .u8 37] (ni 37):=Pure.dX (V:=V0) lY 1000 10 gj (by kernel_rfl)
def Xg:List (Nat×List AV×AV):=[(202,[.int .i64 2,gL 185],.agg [gL 185,.int .i64 2,.int .i64 2]),
 (202,[.int .i64 3,gL 185],.agg [gL 185,.int .i64 3,.int .i64 3]),
 (203,[.int .i64 0,gL 179],.agg [gL 179,.int .i64 0,.int .i64 900]),
 (203,[.int .i64 2,gL 206],.agg [gL 206,.int .i64 2,.int .i64 900]),
 (203,[.int .i64 2,gL 185],.agg [gL 185,.int .i64 2,.int .i64 900]),
 (203,[.int .i64 1,gL 207],.agg [gL 207,.int .i64 1,.int .i64 900]),
 (203,[.int .i64 1,ni 37],.agg [ni 37,.int .i64 1,.int .i64 900]),
 (203,[.int .i64 0,ni 5],.agg [ni 5,.int .i64 0,.int .i64 900]),
 (205,[gL 181],.agg [gL 181,.int .i64 1,.int .i64 1]),
 (205,[gL 185],.agg [gL 185,.int .i64 1,.int .i64 1]),
 (205,[gL 206],.agg [gL 206,.int .i64 1,.int .i64 1]),
 (205,[ni 37],.agg [ni 37,.int .i64 1,.int .i64 1]),
 (204,[.int .u8 5],ni 5),
 (204,[.int .u8 37],ni 37)]
theorem Xh:∀ x∈Xg,Pure K x.1 x.2.1 x.2.2:=by
 intro x hx;simp only[Xg,fe,List.not_mem_nil,or_false]at hx;rcases hx with rfl|rfl|rfl|rfl|rfl|rfl|rfl|rfl|rfl|rfl|rfl|rfl|rfl|rfl
 . exact so0
 . exact so1
 . exact so2
 . exact so3
 . exact so4
 . exact so5
 . exact so6
 . exact so7
 . exact so8
 . exact so9
 . exact abk
 . exact abl
 . exact abm
 . exact abn
def pf1 (f:Nat):Bool:=Nat.beq f 202||(Nat.beq f 203||(Nat.beq f 204||Nat.beq f 205))
def Tv:List Row:=[⟨16384,0,0⟩,⟨32768,0,0⟩,⟨65536,32768,2⟩,⟨131072,65536,4⟩,⟨0,147456,9⟩,⟨262144,0,2⟩,⟨524288,262144,32⟩,⟨1048576,524288,64⟩,⟨0,1064960,129⟩,⟨2097152,8,0⟩,⟨0,2113536,513⟩,⟨4194304,8,0⟩,⟨0,4210688,2049⟩,⟨8388608,0,32⟩,⟨16777216,8388608,8192⟩,⟨33554432,16777216,16384⟩,⟨0,33570816,32769⟩,⟨67108864,0,0⟩,⟨0,67125248,131073⟩,⟨134217728,0,0⟩,⟨0,134234112,524289⟩,⟨268435456,0,8192⟩,⟨536870912,268435456,2097152⟩,⟨1073741824,536870912,4194304⟩,⟨0,1073758208,8388609⟩,⟨2147483648,0,2097152⟩,⟨4294967296,2147483648,33554432⟩,⟨8589934592,4294967296,67108864⟩,⟨0,8589950976,134217729⟩,⟨17179869184,0,33554432⟩,⟨34359738368,17179869184,536870912⟩,⟨68719476736,34359738368,1073741824⟩,⟨0,68719493120,2147483649⟩,⟨137438953472,2,0⟩,⟨0,137438969856,8589934593⟩,⟨274877906944,0,536870912⟩,⟨549755813888,274877906944,34359738368⟩,⟨1099511627776,549755813888,68719476736⟩,⟨0,1099511644160,137438953473⟩,⟨2199023255552,2,0⟩,⟨4398046511104,2199023255552,549755813888⟩,⟨8796093022208,4398046511104,1099511627776⟩,⟨0,8796093038592,2199023255553⟩,⟨17592186044416,0,34359738368⟩,⟨35184372088832,17592186044416,8796093022208⟩,⟨70368744177664,35184372088832,17592186044416⟩,⟨0,70368744194048,35184372088833⟩,⟨140737488355328,2,0⟩,⟨0,140737488371712,140737488355329⟩,⟨281474976710656,0,8796093022208⟩,⟨562949953421312,281474976710656,562949953421312⟩,⟨1125899906842624,562949953421312,1125899906842624⟩,⟨0,1125899906859008,2251799813685249⟩,⟨2251799813685248,2,0⟩,⟨0,2251799813701632,9007199254740993⟩,⟨4503599627370496,2,0⟩,⟨0,4503599627386880,36028797018963969⟩,⟨9007199254740992,0,562949953421312⟩,⟨18014398509481984,9007199254740992,144115188075855872⟩,⟨36028797018963968,18014398509481984,288230376151711744⟩,⟨0,36028797018980352,576460752303423489⟩,⟨72057594037927936,2,0⟩,⟨0,72057594037944320,2305843009213693953⟩,⟨144115188075855872,2,0⟩,⟨0,144115188075872256,9223372036854775809⟩,⟨288230376151711744,2,0⟩,⟨0,288230376151728128,36893488147419103233⟩,⟨576460752303423488,2,0⟩,⟨0,576460752303439872,147573952589676412929⟩,⟨1152921504606846976,2,0⟩,⟨0,1152921504606863360,590295810358705651713⟩,⟨2305843009213693952,0,144115188075855872⟩,⟨4611686018427387904,2305843009213693952,2361183241434822606848⟩,⟨9223372036854775808,4611686018427387904,4722366482869645213696⟩,⟨0,9223372036854792192,9444732965739290427393⟩,⟨18446744073709551616,0,0⟩,⟨0,18446744073709568000,37778931862957161709569⟩,⟨36893488147419103232,0,0⟩,⟨0,36893488147419119616,151115727451828646838273⟩,⟨73786976294838206464,0,0⟩,⟨0,73786976294838222848,604462909807314587353089⟩,⟨147573952589676412928,0,0⟩,⟨0,147573952589676429312,2417851639229258349412353⟩,⟨295147905179352825856,0,0⟩,⟨0,295147905179352842240,9671406556917033397649409⟩,⟨590295810358705651712,4,0⟩,⟨0,590295810358705668096,38685626227668133590597633⟩,⟨1180591620717411303424,4,0⟩,⟨0,1180591620717411319808,154742504910672534362390529⟩,⟨2361183241434822606848,4,0⟩,⟨0,2361183241434822623232,618970019642690137449562113⟩,⟨4722366482869645213696,0,2361183241434822606848⟩,⟨9444732965739290427392,4722366482869645213696,2475880078570760549798248448⟩,⟨18889465931478580854784,9444732965739290427392,4951760157141521099596496896⟩,⟨0,18889465931478580871168,9903520314283042199192993793⟩,⟨37778931862957161709568,0,2475880078570760549798248448⟩,⟨75557863725914323419136,37778931862957161709568,39614081257132168796771975168⟩,⟨151115727451828646838272,0,79228162514264337593543950336⟩,⟨302231454903657293676544,226673591177742970257408,237684487542793012780631851008⟩,⟨604462909807314587353088,302231454903657293676544,316912650057057350374175801344⟩,⟨0,604462909807314587369472,633825300114114700748351602689⟩,⟨1208925819614629174706176,0,158456325028528675187087900672⟩,⟨2417851639229258349412352,0,2535301200456458802993406410752⟩,⟨4835703278458516698824704,2417851639229258349412352,5070602400912917605986812821504⟩,⟨9671406556917033397649408,0,10141204801825835211973625643008⟩,⟨19342813113834066795298816,15716035654990179271180288,32958915605933964438914283339776⟩,⟨38685626227668133590597632,19342813113834066795298816,40564819207303340847894502572032⟩,⟨0,38685626227668133590614016,81129638414606681695789005144065⟩,⟨77371252455336267181195264,4,0⟩,⟨0,77371252455336267181211648,324518553658426726783156020576257⟩,⟨154742504910672534362390528,16384,1298074214633706907132624082305023⟩,⟨1,154742504910672534362390528,2596148429267413814265248164610047⟩]
def Wu:List Row×List (Bool×Nat)×lG×List (Bool×Nat):=(Tv,[(true,1),(true,2),(true,3),(true,5),(true,6),(true,7),(true,9),(true,11),(true,13),(true,14),(true,15),(true,17),(true,19),(true,21),(true,22),(true,23),(true,25),(true,26),(true,27),(true,29),(true,30),(true,31),(true,33),(true,35),(true,36),(true,37),(true,39),(true,40),(true,41),(true,43),(true,44),(true,45),(true,47),(true,49),(true,50),(true,51),(true,53),(true,55),(true,57),(true,58),(true,59),(true,61),(true,63),(true,65),(true,67),(true,69),(true,71),(true,72),(true,73),(true,75),(true,77),(true,79),(true,81),(true,83),(true,85),(true,87),(true,89),(true,91),(true,92),(true,93),(true,95),(true,96),(true,97),(true,98),(true,99),(true,101),(true,102),(true,103),(true,104),(true,105),(true,106),(true,108),(false,0)],⟨166,14,.u8,[4,8,10,12,16,18,20,24,28,32,34,38,42,46,48,52,54,56,60,62,64,66,68,70,74,76,78,80,82,84,86,88,90,94,100,107,109]⟩,[(true,110),(true,111)])
noncomputable def V1:gd:=⟨K,RM,pf1,Sj Xg,λ _ _ _=>none,λ _=>false,136,λ f r=>cond (Nat.beq f 130&&Nat.beq r 4) (some Wu) none⟩
theorem aah:o9 V1:=⟨Oc Xh,λ _ _ _ _ _ h=>(by cases h),λ _ h=>(by cases h),BZ⟩
theorem zV:Pure K 130 [] nB:=Pure.dX (V:=V1) aah 1000 10 gj (by kernel_rfl)
end Go.Rip
namespace Go.Rip
open Go.RowKit
theorem Mb {α:Type} (f:α->AV×AV) (l:List α):∀ {x:AV×AV} {r:List (AV×AV)},(x,r)∈qF (l.map f)->∃ a l',x=f a/\r=l'.map f/\(a::l').Perm l:=by
 induction l with
 | nil=>intro _ _ h; cases h
 | cons b l ih =>
   intro x r h;simp only[dY,qF,fe,List.mem_map]at h;rcases h with h|⟨p,h1,h2⟩
   . cases h; exact⟨b,l,rfl,rfl,.refl _⟩
   . obtain⟨a,l',he,hr,hp⟩:=ih (x:=p.1) (r:=p.2) h1;cases h2;exact⟨a,b::l',he,by rw[hr]; rfl,(List.Perm.swap ..).trans (hp.cons b)⟩
theorem HQ {C:ck} {o:Nat} {U:St} {α:Type} {f:α->AV×AV} {l:List α} {c:Option (AV×AV)} {k kp:AV->St->Prop} (h:U.iter o=some (l.map f,c))
 (h0:l=[]->k (.aQ [.bool false]) U) (h1:∀ a l',(a::l').Perm l->k (.aQ [.bool true,(f a).1,(f a).2]) (U.set o (.iter (l'.map f) (some (f a))))):(qE (.it o) U).wp C U k kp:=by
 cases l with
 | nil=>simp only[qE,h,lO]; exact h0 rfl
 | cons b l =>
   simp only[qE,h,dY];intro p hp;obtain⟨q,hq,rfl⟩:=List.mem_map.1 hp;obtain⟨x,r⟩:=q;obtain⟨a,l',rfl,rfl,Ek⟩:=Mb f (b::l) hq;exact h1 a l' Ek
@[simp] theorem iter_set (U:St) (b y:Nat) (r:List (AV×AV)) (c:Option (AV×AV)):(U.set b (.iter r c)).iter y=if y=b then some (r,c) else U.iter y:=by
 simp only[St.iter,St.set]; by_cases h:y=b<;>simp[h]
@[simp] theorem aa0 (U:St) (b y:Nat) (r:List (AV×AV)) (c:Option (AV×AV)):(U.new b (.iter r c)).iter y=if y=b then some (r,c) else U.iter y:=by
 simp only[St.iter,St.new]; by_cases h:y=b<;>simp[h]
abbrev TP:=Int×List (List UInt8×Int)
def opsL:List TP:=[(2,[([111,114],17)]),(3,[([97,110,100],18)]),(5,[([60],21),([61],20)]),(6,[([43],22),([45],23)]),(7,[([42],24)]),(8,[([97,115],25)])]
def rA (p:List UInt8×Int):AV×AV:=(.str p.1,.int .u8 p.2)
def rz (p:TP):AV×AV:=(.int .i64 p.1,.eD (p.2.map λ q=>(rA q).1) (p.2.map λ q=>(rA q).2))
def opsV:AV:=.eD (opsL.map λ p=>(rz p).1) (opsL.map λ p=>(rz p).2)
def rn (k:Int):Int:=match opsL.find? (λ p=>p.2.any λ q=>q.2==k) with
 | some p=>p.1
 | none=>if k=9 then 0 else if k=19 then 4 else if 10<=k/\k<=16 then 1 else 9
theorem zip_map {α:Type} (f:α->AV×AV) (l:List α):(l.map λ p=>(f p).1).zip (l.map λ p=>(f p).2)=l.map f:=by
 induction l with
 | nil=>rfl
 | cons a l ih=>simp[ih]
theorem LG:∀ p∈opsL,∀ q∈p.2,rn q.2=p.1:=by decide
theorem Jw {k:Int} (h:∀ p∈opsL,∀ q∈p.2,q.2≠k):rn k=if k=9 then 0 else if k=19 then 4 else if 10<=k/\k<=16 then 1 else 9:=by
 have:opsL.find? (λ p=>p.2.any λ q=>q.2==k)=none:=by
  rw[List.find?_eq_none];intro p hp hq;simp only[List.any_eq_true,beq_iff_eq]at hq;obtain⟨q,hq,e⟩:=hq;exact h p hp q hq e
 simp only[rn,this]
theorem Jp {U:St} {o q:Nat} {x:List (AV×AV)×Option (AV×AV)} (hq:U.cV q) (h:U.iter o=some x):o≠q:=λ e=>by
 subst e;simp[St.iter,hq.1]at h
theorem Kg (i:Nat):closed (K.wh i)=true:=by
 show closed (if i=0 then .ca tg else if i=7 then .ca tP else .any)=true
 split
 . decide +kernel
 . split
   . decide +kernel
   . rfl
theorem Jv {L:List AV} (h2:L[2]?=some opsV) (k:Int) (U:St) (R:cM->St->Prop) (hR:∀ ad,R (.ret (.int .i64 (rn k))) ad):ae K 236 [.ca L,.int .u8 k] U R:=by
 refine NX ?_;have hL:fV (L.drop 2)=.val opsV:=by
  have:L.drop 2=opsV::L.drop 3:=by
   rw[iq (dp.1 h2).1];simp[(dp.1 h2).2]
  rw[this]; rfl
 have hrg:∀ (l:List TP) fk,xh (some fk) (.eD (l.map λ p=>(rz p).1) (l.map λ p=>(rz p).2))=.new .it none (.iter (l.map rz) none):=λ l fk=>by rw[<- zip_map]; rfl
 have aaQ:∀ (l:List (List UInt8×Int)) fk,xh (some fk) (.eD (l.map λ p=>(rA p).1) (l.map λ p=>(rA p).2))=.new .it none (.iter (l.map rA) none):=λ l fk=>by rw[<- zip_map]; rfl
 simp only[NW,vI,ak,di,sj,hL,opsV,hrg,nK,NV.at];intro o ho;refine⟨λ m v1 cF ad=>∃ l done c,v1=.int .u8 k/\cF=.it o/\ad.iter o=some (l.map rz,c)/\m=l.length/\(done++l).Perm opsL/\∀ p∈done,∀ q∈p.2,q.2≠k,⟨6,opsL,[],none,rfl,rfl,by simp,rfl,.refl _,by simp⟩,?_⟩;rintro m v1 cF ad ⟨l,done,c,rfl,rfl,hit,rfl,hp,hd⟩;refine HQ hit (λ hl=>?_) (λ a l' Ek=>?_)
 . subst hl;simp only[bh,dN,dj,ak,aW];have YU:∀ p∈opsL,∀ q∈p.2,q.2≠k:=λ p Wb=>hd p (by have:=hp.mem_iff (a:=p); simp at this; exact this.2 Wb);have re:=Jw YU;simp (contextual:=true) [-Int.not_le,-Int.not_lt,AE,yJ,bJ]
   repeat' (first|refine And.intro ?_ ?_|intro _)
   all_goals (refine aq.eq (hR _) ?_; rw[re]; simp only[AV.int.injEq,true_and])
   all_goals grind
 . simp only[bh,dN,dj,ak,a8];have he:ny (.it o) (ad.set o (.iter (l'.map rz) (some (rz a))))=.val (.aQ [(rz a).1,(rz a).2]):=by simp[ny]
   have e2:(rz a).2=.eD (a.2.map λ q=>(rA q).1) (a.2.map λ q=>(rA q).2):=rfl;simp only[he,ak,bh,dN,List.drop_succ_cons,dj];rw[e2,aaQ];simp only[nK,NV.at];intro o2 Rr;have cv:o≠o2:=Jp (x:=(l'.map rz,some (rz a))) Rr (by simp);refine⟨λ m v1 v5 cF v20 ad=>∃ l2 zP c2 c,v1=.int .u8 k/\v5=.int .i64 a.1/\cF=.it o/\v20=.it o2/\ad.iter o2=some (l2.map rA,c2)/\ad.iter o=some (l'.map rz,c)/\m=l2.length/\(zP++l2).Perm a.2/\∀ q∈zP,q.2≠k,⟨a.2.length,a.2,[],none,some (rz a),rfl,rfl,rfl,rfl,by simp,by simp[cv],rfl,.refl _,by simp⟩,?_⟩;rintro m v1 v5 cF v20 bI ⟨l2,zP,c2,c3,rfl,rfl,rfl,rfl,aaI,VO,rfl,Hw,qX⟩;refine HQ aaI (λ hl=>?_) (λ b l3 vw=>?_)
   . subst hl;simp only[bh,dN,dj,ak,aW];have hlen:l'.length<l.length:=by rw[<- Ek.length_eq]; simp
     refine⟨l'.length,hlen,l',done++[a],c3,rfl,rfl,VO,rfl,?_,?_⟩
     . rw[nu];exact (List.Perm.append_left done Ek).trans hp
     . intro p Wb q hq;rcases fN.1 Wb with h|h
       . exact hd p h q hq
       . simp only[lN]at h;subst h;exact qX q (by have:=Hw.mem_iff (a:=q); simp at this; exact this.2 hq)
   . have he2:ny (.it o2) (bI.set o2 (.iter (l3.map rA) (some (rA b))))=.val (.aQ [(rA b).1,(rA b).2]):=by simp[ny]
     simp only[bh,dN,dj,ak,a8];rw[he2];simp only[bh,dN,dj,ak,List.drop_succ_cons,rA,bw,bJ];have hb:b∈a.2:=Hw.mem_iff.1 (List.mem_append_right _ (vw.mem_iff.1 (by simp)));have ha:a∈opsL:=hp.mem_iff.1 (List.mem_append_right _ (Ek.mem_iff.1 (by simp)));refine⟨λ hk=>?_,λ hk=>?_⟩
     . refine aq.eq (hR _) ?_;rw[<- hk,LG a ha b hb]
     . have hlen:l3.length<l2.length:=by rw[<- vw.length_eq]; simp
       refine⟨l3.length,hlen,l3,zP++[b],some (rA b),c3,rfl,rfl,rfl,rfl,by simp[rA],by simp[cv,VO],rfl,?_,?_⟩
       . rw[nu];exact (List.Perm.append_left zP vw).trans Hw
       . intro q hq;rcases fN.1 hq with h|h
         . exact qX q h
         . simp only[lN]at h;subst h; exact hk
theorem Jx {L:List AV} (h2:L[2]?=some opsV) (hc:bG L=true) (k:Int):Pure K 236 [.ca L,.int .u8 k] (.int .i64 (rn k)) :=
 Pure.xT Kg (by simp[bG,closed,hc]) rfl 1 (Jv h2 k _ _ λ ad=>⟨_,rfl,rfl⟩)
theorem sJ:∀ (l:List AV),bG (l.map λ _=>AV.any)=true
 | []=>rfl
 | x::l=>by simp[bG,closed,sJ l]
theorem LF {b:Nat} {x y:AV} {l:List AV} {k:Int} {U:St} {R:cM->St->Prop} (hb:U.box b=some (x::y::opsV::l)) (hR:R (.ret (.int .i64 (rn k))) U):ae K 236 [.box b 0,.int .u8 k] U R:=by
 refine ae.Ib 5 Kg (args0:=[.ca (.any::.any::opsV::l.map λ _=>.any),.int .u8 k]) (λ g vs h=>?_) ?_ rfl (Jx rfl ?_ k) hR
 . have e:([.box b 0,.int .u8 k]:List AV).map (resolve 5 U)=[.ca (resolve 4 U x::resolve 4 U y::opsV::l.map (resolve 4 U)),.int .u8 k]:=by
    simp only[dY,lO,resolve,hb,dN];rfl
   rw[e]at h;refine Wk.ca (.drop _ (.drop _ (.bf _ ?_))) h;have:=Wk.any (l.map (resolve 4 U));rw[List.map_map]at this; exact this
 . simp only[bG,closed,sJ,Bool.and_true,Bool.true_and]; decide +kernel
 . simp only[bG,closed,sJ,Bool.and_true,Bool.true_and]; decide +kernel
end Go.Rip
namespace Go.Rip
open Go.RowKit
def JV (f:Nat) (args:List AV) (e:ES):Option (AV×ES):=match args with
 | [.box b 0,.int .u8 k]=>cond (Nat.beq f 236) (match (bK e).box b with|some (_::_::m::_)=>cond (gG m opsV) (some (.int .i64 (rn k),e)) none|_=>none) none
 | _=>Qm f args e
theorem iQ {α:Type} {b:Bool} {x:Option α} {y:α} (h:cond b x none=some y):b=true/\x=some y:=by
 cases b with
 | true=>exact⟨rfl,h⟩
 | false=>cases h
theorem Qn:∀ f args x,JW f args=some x->Pure K f args x:=by
 intro f args x h;unfold JW at h;split at h
 . obtain⟨h1,h2⟩:=iQ h;simp only[bV,dJ]at h1;obtain⟨h3,h4,h5⟩:=h1;have:=dF h3;subst this;cases h2;rename_i s c;have e:=tF s c;rw[qm]at e;have e2:(c.toNat.toUInt8).toNat=c.toNat:=by simp[Nat.toUInt8]; omega
   rw[e2]at e; exact e
 . obtain⟨h1,h2⟩:=iQ h;have:=dF h1;subst this;cases h2;rename_i s c;have e:=tG s c;rw[qm]at e; exact e
 . obtain⟨h1,h2⟩:=iQ h;simp only[bV,dJ]at h1;obtain⟨h3,h4,h5⟩:=h1;have:=dF h3;subst this;cases h2;rename_i n;have e:=Lu n (by omega) (by omega);have e2:Lib.itoa n=D3 8 n.toNat:=by
    rw[G8 7 n.toNat (by omega)];unfold Lib.itoa;rw[if_neg (by omega)]
   rw[e2]at e; exact e
 . cases h
theorem Tz:∀ f args e x e',Qm f args e=some (x,e')->∀ R,R (.ret x) (bK e')->ae K f args (bK e) R:=by
 intro f args e x e' h R hR;unfold Qm at h;split at h
 . rename_i b;cases h1:Nat.beq f 190 with
   | true =>
     have:=dF h1;subst this;rw[h1,cond_true]at h;split at h
     . rename_i t y hb;obtain⟨h2,h3⟩:=iQ h;have:=dF h2;subst this;cases h3;refine zN (y:=y) hb ?_;rw[kZ]at hR; exact hR
     . rename_i b' rest hb;obtain⟨h2,h3⟩:=iQ h;have:=dF h2;subst this;cases h3;exact Bj (rest:=rest) (by show (match (bK e).live b' with|some (.box l)=>some l|some (.yN _ l)=>some l|_=>none)=_; rw[show (bK e).live b'=e.live.get b' from rfl,hb]) hR
     . cases h
   | false =>
     rw[h1,cond_false]at h;obtain⟨h2,h3⟩:=iQ h;have:=dF h2;subst this;split at h3
     . rename_i a n τ l hb;split at h3
       . rename_i c bs m zY ht;obtain⟨h4,h5⟩:=iQ h3;simp only[bV]at h4;have e1:=dF h4.1;have e2:=dF h4.2;subst e1;cases h5;have e3:=zL zY;refine Bi (a:=a) (l:=c::bs) (τ:=τ) (by simp) (by rw[hb,e3,e2]; rfl) (by rw[ht,e2]; rfl) ?_;rw[zy]at hR; exact hR
       . cases h3
     . rename_i a hb;cases h3;exact vU (a:=a) hb hR
     . cases h3
 . cases h
theorem Ih:∀ f args e x e',JV f args e=some (x,e')->∀ R,R (.ret x) (bK e')->ae K f args (bK e) R:=by
 intro f args e x e' h R hR;unfold JV at h;split at h
 . obtain⟨h1,h2⟩:=iQ h;have:=dF h1;subst this;split at h2
   . rename_i m l hb;obtain⟨h3,h4⟩:=iQ h2;have:=ti h3;subst this;cases h4;exact LF hb hR
   . cases h2
 . exact Tz f args e x e' h R hR
def Xk (f:Nat) (args:List AV):Option AV:=match args with
 | []=>cond (Nat.beq f 153) (some Ba) (cond (Nat.beq f 96) (some zi) (cond (Nat.beq f 97) (some pb) (cond (Nat.beq f 130) (some nB) none)))
 | _=>JW f args
theorem Xl:∀ f args x,Xk f args=some x->Pure K f args x:=by
 intro f args x h;unfold Xk at h;split at h
 . cases h1:Nat.beq f 153 with
   | true=>rw[h1]at h; have:=dF h1; subst this; cases h; exact Bc
   | false =>
     rw[h1,cond_false]at h;cases h1:Nat.beq f 96 with
     | true=>rw[h1]at h; have:=dF h1; subst this; cases h; exact Fm
     | false =>
       rw[h1,cond_false]at h;cases h1:Nat.beq f 97 with
       | true=>rw[h1]at h; have:=dF h1; subst this; cases h; exact yn
       | false =>
         rw[h1,cond_false]at h;obtain⟨h1,h2⟩:=iQ h;have:=dF h1; subst this; cases h2; exact zV
 . exact Qn f args x h
def pfV (f:Nat):Bool:=Nat.beq f 153||(Nat.beq f 96||(Nat.beq f 97||(Nat.beq f 130||(Nat.beq f 214||(Nat.beq f 243||Nat.beq f 257)))))
noncomputable def V2:gd:=⟨K,RM,pfV,Xk,JV,λ f=>Nat.beq f 54,136,λ _ _=>none⟩
theorem Io:o9 V2:=⟨Xl,Ih,λ f h=>by have:=dF h; subst this; exact zz,BZ⟩
end Go.Rip
