/- Lemmas for the proof: no conditions. -/
import Derived.Test.YtnfpmiiopiinbaaGreatDoorRipZz
import Derived.Test.YtnfpmiiopiinbaaGreatDoorRipE
import Derived.Test.YtnfpmiiopiinbaaGreatDoorRipD
import Derived.Test.YtnfpmiiopiinbaaGreatDoorRipB
import Derived.Test.YtnfpmiiopiinbaaGreatDoorRipG
import Derived.Test.YtnfpmiiopiinbaaGreatDoorRipC
set_option linter.unusedVariables false
set_option linter.unusedSimpArgs false
set_option linter.loopingSimpArgs false
set_option maxRecDepth 100000
namespace Go.Rip
open Go.Proofs
def smT (l:List (Nat×List AV×AV)) (f:Nat) (args:List AV):Option AV:=match l.find? (λ x=>Nat.beq x.1 f&&qI x.2.1 args) with
 | some x=>some x.2.2
 | none=>none
theorem Wa {l:List (Nat×List AV×AV)} (h:∀ x∈l,Pure K x.1 x.2.1 x.2.2) (f:Nat) (args:List AV) (x:AV) (hx:smT l f args=some x):Pure K f args x:=by
 unfold smT at hx;split at hx
 . rename_i y hy;cases hx;have h1:=List.find?_some hy;simp only[cb]at h1;have e1:=fP h1.1;have e2:=mi h1.2;have:=h y (List.mem_of_find?_eq_some hy);rw[e1,e2]at this;exact this
 . cases hx
theorem jT:∀ i,closed (K.AM i)=true:=λ i=>by
 show closed (if i=0 then .da xL else if i=7 then .da ym else .any)=true
 split
 . decide +kernel
 . split
   . decide +kernel
   . rfl
def Z7 (f:Nat):List Nat:=cond (Nat.beq f 110||(Nat.beq f 69||Nat.beq f 157)) (List.range 100) []
noncomputable def V0:jP:=⟨K,Z7,λ _=>false,λ _ _=>none,λ _ _ _=>none,λ _=>false,136,λ _ _=>none⟩
theorem pY:th V0:=⟨λ _ _ _ h=>(by cases h),λ _ _ _ _ _ h=>(by cases h),λ _ h=>(by cases h),GZ⟩
def FV:AV:=.gJ [.str [97,110,100],.str [97,115],.str [98,111,111,108],.str [99,101,108,108],.str [99,104,111,111,115,101],.str [99,111,109],.str [100,101,102],.str [100,111],.str [101,108,115,101],.str [101,120,112,111,114,116],.str [102,97,108,115,101],.str [102,110],.str [103,101,116],.str [104,97,110,103],.str [105,102],.str [105,109,112,111,114,116],.str [105,110],.str [105,110,116],.str [106,117,109,112],.str [108,97,98,101,108],.str [110,101,119],.str [110,111,116],.str [110,111,116,105,99,101],.str [111,102],.str [111,114],.str [112,117,116],.str [115,107,105,112],.str [116,104,101,110],.str [116,114,117,101],.str [119,104,105,108,101]] [.bool true,.bool true,.bool true,.bool true,.bool true,.bool true,.bool true,.bool true,.bool true,.bool true,.bool true,.bool true,.bool true,.bool true,.bool true,.bool true,.bool true,.bool true,.bool true,.bool true,.bool true,.bool true,.bool true,.bool true,.bool true,.bool true,.bool true,.bool true,.bool true,.bool true]
def Bq:AV:=.gJ [.int .i64 2,.int .i64 3,.int .i64 5,.int .i64 6,.int .i64 7,.int .i64 8] [.gJ [.str [111,114]] [.int .u8 17],.gJ [.str [97,110,100]] [.int .u8 18],.gJ [.str [60],.str [61]] [.int .u8 21,.int .u8 20],.gJ [.str [43],.str [45]] [.int .u8 22,.int .u8 23],.gJ [.str [42]] [.int .u8 24],.gJ [.str [97,115]] [.int .u8 25]]
def tu:AV:=.gJ [.str [99,104,111,111,115,101],.str [105,102],.str [108,97,98,101,108],.str [110,101,119],.str [110,111,116,105,99,101],.str [119,104,105,108,101]] [.func (.func 162) [] [],.func (.func 158) [] [],.func (.func 161) [] [],.func (.func 160) [] [],.func (.func 163) [] [],.func (.func 159) [] []]
def qU:AV:=.gJ [.int .u8 1,.int .u8 2,.int .u8 3,.int .u8 4,.int .u8 5,.int .u8 6,.int .u8 7,.int .u8 8,.int .u8 9,.int .u8 10,.int .u8 11,.int .u8 12,.int .u8 13,.int .u8 14,.int .u8 15,.int .u8 16,.int .u8 17,.int .u8 18,.int .u8 19,.int .u8 20,.int .u8 21,.int .u8 22,.int .u8 23,.int .u8 24,.int .u8 25,.int .u8 26,.int .u8 27,.int .u8 28,.int .u8 29,.int .u8 30,.int .u8 31,.int .u8 32,.int .u8 33,.int .u8 34,.int .u8 35,.int .u8 36,.int .u8 37] [.agg [.bool false,.bool false,.bool false,.vec 1 .full [.func (.func 179) [] [],.int .i64 0,.int .i64 900]],.agg [.bool true,.bool false,.bool false,.vec 1 .full [.func (.func 181) [] [],.int .i64 1,.int .i64 1]],.agg [.bool true,.bool false,.bool false,.vec 3 .full [.func (.func 242) [] [.da [.int .u8 5]],.int .i64 0,.int .i64 900,.func (.func 206) [] [],.int .i64 1,.int .i64 1,.func (.func 185) [] [],.int .i64 1,.int .i64 1]],.agg [.bool true,.bool false,.bool false,.vec 3 .full [.func (.func 242) [] [.da [.int .u8 5]],.int .i64 0,.int .i64 900,.func (.func 206) [] [],.int .i64 1,.int .i64 1,.func (.func 185) [] [],.int .i64 1,.int .i64 1]],.agg [.bool true,.bool false,.bool false,.vec 1 .full [.func (.func 181) [] [],.int .i64 1,.int .i64 1]],.agg [.bool false,.bool true,.bool false,.ag],.agg [.bool false,.bool true,.bool false,.ag],.agg [.bool false,.bool false,.bool false,.vec 1 .full [.func (.func 206) [] [],.int .i64 2,.int .i64 900]],.agg [.bool false,.bool false,.bool false,.vec 1 .full [.func (.func 185) [] [],.int .i64 2,.int .i64 900]],.agg [.bool false,.bool false,.bool false,.vec 1 .full [.func (.func 185) [] [],.int .i64 3,.int .i64 3]],.agg [.bool false,.bool false,.bool false,.vec 1 .full [.func (.func 185) [] [],.int .i64 2,.int .i64 2]],.agg [.bool true,.bool true,.bool true,.vec 1 .full [.func (.func 185) [] [],.int .i64 1,.int .i64 1]],.agg [.bool true,.bool false,.bool false,.vec 1 .full [.func (.func 185) [] [],.int .i64 2,.int .i64 2]],.agg [.bool true,.bool true,.bool false,.vec 1 .full [.func (.func 185) [] [],.int .i64 1,.int .i64 1]],.agg [.bool false,.bool false,.bool false,.vec 1 .full [.func (.func 185) [] [],.int .i64 2,.int .i64 2]],.agg [.bool true,.bool false,.bool false,.vec 1 .full [.func (.func 185) [] [],.int .i64 1,.int .i64 1]],.agg [.bool false,.bool false,.bool false,.vec 1 .full [.func (.func 185) [] [],.int .i64 2,.int .i64 2]],.agg [.bool false,.bool false,.bool false,.vec 1 .full [.func (.func 185) [] [],.int .i64 2,.int .i64 2]],.agg [.bool false,.bool false,.bool false,.vec 1 .full [.func (.func 185) [] [],.int .i64 1,.int .i64 1]],.agg [.bool false,.bool false,.bool false,.vec 1 .full [.func (.func 185) [] [],.int .i64 2,.int .i64 2]],.agg [.bool false,.bool false,.bool false,.vec 1 .full [.func (.func 185) [] [],.int .i64 2,.int .i64 2]],.agg [.bool false,.bool false,.bool false,.vec 1 .full [.func (.func 185) [] [],.int .i64 2,.int .i64 2]],.agg [.bool false,.bool false,.bool false,.vec 1 .full [.func (.func 185) [] [],.int .i64 2,.int .i64 2]],.agg [.bool false,.bool false,.bool false,.vec 1 .full [.func (.func 185) [] [],.int .i64 2,.int .i64 2]],.agg [.bool false,.bool true,.bool false,.vec 1 .full [.func (.func 185) [] [],.int .i64 1,.int .i64 1]],.agg [.bool false,.bool true,.bool false,.ag],.agg [.bool false,.bool false,.bool false,.ag],.agg [.bool false,.bool false,.bool false,.ag],.agg [.bool false,.bool false,.bool false,.ag],.agg [.bool false,.bool false,.bool false,.ag],.agg [.bool true,.bool false,.bool false,.ag],.agg [.bool true,.bool false,.bool false,.ag],.agg [.bool true,.bool false,.bool false,.ag],.agg [.bool true,.bool false,.bool false,.vec 1 .full [.func (.func 207) [] [],.int .i64 1,.int .i64 900]],.agg [.bool false,.bool false,.bool false,.vec 2 .full [.func (.func 242) [] [.da [.int .u8 37]],.int .i64 1,.int .i64 900,.func (.func 185) [] [],.int .i64 1,.int .i64 1]],.agg [.bool false,.bool false,.bool false,.vec 3 .full [.func (.func 185) [] [],.int .i64 1,.int .i64 1,.func (.func 242) [] [.da [.int .u8 37]],.int .i64 1,.int .i64 1,.func (.func 185) [] [],.int .i64 1,.int .i64 1]],.agg [.bool true,.bool false,.bool false,.ag]]
theorem FY:Pure K 153 [] FV:=Pure.gu (V:=V0) pY 1000 10 jT (by kernel_rfl)
theorem DL:Pure K 96 [] Bq:=Pure.gu (V:=V0) pY 1000 10 jT (by kernel_rfl)
theorem CL:Pure K 97 [] tu:=Pure.gu (V:=V0) pY 1000 10 jT (by kernel_rfl)
def kK (n:Nat):AV:=.func (.func n) [] []
def qK (n:Int):AV:=.func (.func 242) [] [.da [.int .u8 n]]
theorem so0:Pure K 202 [.int .i64 2,kK 185] (.agg [kK 185,.int .i64 2,.int .i64 2]):=Pure.gu (V:=V0) pY 1000 10 jT (by kernel_rfl)
theorem so1:Pure K 202 [.int .i64 3,kK 185] (.agg [kK 185,.int .i64 3,.int .i64 3]):=Pure.gu (V:=V0) pY 1000 10 jT (by kernel_rfl)
theorem so2:Pure K 203 [.int .i64 0,kK 179] (.agg [kK 179,.int .i64 0,.int .i64 900]):=Pure.gu (V:=V0) pY 1000 10 jT (by kernel_rfl)
theorem so3:Pure K 203 [.int .i64 2,kK 206] (.agg [kK 206,.int .i64 2,.int .i64 900]):=Pure.gu (V:=V0) pY 1000 10 jT (by kernel_rfl)
theorem so4:Pure K 203 [.int .i64 2,kK 185] (.agg [kK 185,.int .i64 2,.int .i64 900]):=Pure.gu (V:=V0) pY 1000 10 jT (by kernel_rfl)
theorem so5:Pure K 203 [.int .i64 1,kK 207] (.agg [kK 207,.int .i64 1,.int .i64 900]):=Pure.gu (V:=V0) pY 1000 10 jT (by kernel_rfl)
theorem so6:Pure K 203 [.int .i64 1,qK 37] (.agg [qK 37,.int .i64 1,.int .i64 900]):=Pure.gu (V:=V0) pY 1000 10 jT (by kernel_rfl)
theorem so7:Pure K 203 [.int .i64 0,qK 5] (.agg [qK 5,.int .i64 0,.int .i64 900]):=Pure.gu (V:=V0) pY 1000 10 jT (by kernel_rfl)
theorem so8:Pure K 205 [kK 181] (.agg [kK 181,.int .i64 1,.int .i64 1]):=Pure.gu (V:=V0) pY 1000 10 jT (by kernel_rfl)
theorem so9:Pure K 205 [kK 185] (.agg [kK 185,.int .i64 1,.int .i64 1]):=Pure.gu (V:=V0) pY 1000 10 jT (by kernel_rfl)
theorem ajA:Pure K 205 [kK 206] (.agg [kK 206,.int .i64 1,.int .i64 1]):=Pure.gu (V:=V0) pY 1000 10 jT (by kernel_rfl)
theorem ajB:Pure K 205 [qK 37] (.agg [qK 37,.int .i64 1,.int .i64 1]):=Pure.gu (V:=V0) pY 1000 10 jT (by kernel_rfl)
theorem ajC:Pure K 204 [.int .u8 5] (qK 5):=Pure.gu (V:=V0) pY 1000 10 jT (by kernel_rfl)
theorem ajD:Pure K 204 [.int .u8 37] (qK 37):=Pure.gu (V:=V0) pY 1000 10 jT (by kernel_rfl)
def sm1:List (Nat×List AV×AV):=[(202,[.int .i64 2,kK 185],.agg [kK 185,.int .i64 2,.int .i64 2]),
 (202,[.int .i64 3,kK 185],.agg [kK 185,.int .i64 3,.int .i64 3]),
 (203,[.int .i64 0,kK 179],.agg [kK 179,.int .i64 0,.int .i64 900]),
 (203,[.int .i64 2,kK 206],.agg [kK 206,.int .i64 2,.int .i64 900]),
 (203,[.int .i64 2,kK 185],.agg [kK 185,.int .i64 2,.int .i64 900]),
 (203,[.int .i64 1,kK 207],.agg [kK 207,.int .i64 1,.int .i64 900]),
 (203,[.int .i64 1,qK 37],.agg [qK 37,.int .i64 1,.int .i64 900]),
 (203,[.int .i64 0,qK 5],.agg [qK 5,.int .i64 0,.int .i64 900]),
 (205,[kK 181],.agg [kK 181,.int .i64 1,.int .i64 1]),
 (205,[kK 185],.agg [kK 185,.int .i64 1,.int .i64 1]),
 (205,[kK 206],.agg [kK 206,.int .i64 1,.int .i64 1]),
 (205,[qK 37],.agg [qK 37,.int .i64 1,.int .i64 1]),
 (204,[.int .u8 5],qK 5),
 (204,[.int .u8 37],qK 37)]
theorem afu:∀ x∈sm1,Pure K x.1 x.2.1 x.2.2:=by
 intro x hx;simp only[sm1,cK,List.not_mem_nil,or_false]at hx;rcases hx with rfl|rfl|rfl|rfl|rfl|rfl|rfl|rfl|rfl|rfl|rfl|rfl|rfl|rfl
 . exact so0
 . exact so1
 . exact so2
 . exact so3
 . exact so4
 . exact so5
 . exact so6
 . exact so7
 . exact so8
 . exact so9
 . exact ajA
 . exact ajB
 . exact ajC
 . exact ajD
def pf1 (f:Nat):Bool:=Nat.beq f 202||(Nat.beq f 203||(Nat.beq f 204||Nat.beq f 205))
def acd:List Row:=[⟨16384,0,0⟩,⟨32768,0,0⟩,⟨65536,32768,2⟩,⟨131072,65536,4⟩,⟨0,147456,9⟩,⟨262144,0,2⟩,⟨524288,262144,32⟩,⟨1048576,524288,64⟩,⟨0,1064960,129⟩,⟨2097152,8,0⟩,⟨0,2113536,513⟩,⟨4194304,8,0⟩,⟨0,4210688,2049⟩,⟨8388608,0,32⟩,⟨16777216,8388608,8192⟩,⟨33554432,16777216,16384⟩,⟨0,33570816,32769⟩,⟨67108864,0,0⟩,⟨0,67125248,131073⟩,⟨134217728,0,0⟩,⟨0,134234112,524289⟩,⟨268435456,0,8192⟩,⟨536870912,268435456,2097152⟩,⟨1073741824,536870912,4194304⟩,⟨0,1073758208,8388609⟩,⟨2147483648,0,2097152⟩,⟨4294967296,2147483648,33554432⟩,⟨8589934592,4294967296,67108864⟩,⟨0,8589950976,134217729⟩,⟨17179869184,0,33554432⟩,⟨34359738368,17179869184,536870912⟩,⟨68719476736,34359738368,1073741824⟩,⟨0,68719493120,2147483649⟩,⟨137438953472,2,0⟩,⟨0,137438969856,8589934593⟩,⟨274877906944,0,536870912⟩,⟨549755813888,274877906944,34359738368⟩,⟨1099511627776,549755813888,68719476736⟩,⟨0,1099511644160,137438953473⟩,⟨2199023255552,2,0⟩,⟨4398046511104,2199023255552,549755813888⟩,⟨8796093022208,4398046511104,1099511627776⟩,⟨0,8796093038592,2199023255553⟩,⟨17592186044416,0,34359738368⟩,⟨35184372088832,17592186044416,8796093022208⟩,⟨70368744177664,35184372088832,17592186044416⟩,⟨0,70368744194048,35184372088833⟩,⟨140737488355328,2,0⟩,⟨0,140737488371712,140737488355329⟩,⟨281474976710656,0,8796093022208⟩,⟨562949953421312,281474976710656,562949953421312⟩,⟨1125899906842624,562949953421312,1125899906842624⟩,⟨0,1125899906859008,2251799813685249⟩,⟨2251799813685248,2,0⟩,⟨0,2251799813701632,9007199254740993⟩,⟨4503599627370496,2,0⟩,⟨0,4503599627386880,36028797018963969⟩,⟨9007199254740992,0,562949953421312⟩,⟨18014398509481984,9007199254740992,144115188075855872⟩,⟨36028797018963968,18014398509481984,288230376151711744⟩,⟨0,36028797018980352,576460752303423489⟩,⟨72057594037927936,2,0⟩,⟨0,72057594037944320,2305843009213693953⟩,⟨144115188075855872,2,0⟩,⟨0,144115188075872256,9223372036854775809⟩,⟨288230376151711744,2,0⟩,⟨0,288230376151728128,36893488147419103233⟩,⟨576460752303423488,2,0⟩,⟨0,576460752303439872,147573952589676412929⟩,⟨1152921504606846976,2,0⟩,⟨0,1152921504606863360,590295810358705651713⟩,⟨2305843009213693952,0,144115188075855872⟩,⟨4611686018427387904,2305843009213693952,2361183241434822606848⟩,⟨9223372036854775808,4611686018427387904,4722366482869645213696⟩,⟨0,9223372036854792192,9444732965739290427393⟩,⟨18446744073709551616,0,0⟩,⟨0,18446744073709568000,37778931862957161709569⟩,⟨36893488147419103232,0,0⟩,⟨0,36893488147419119616,151115727451828646838273⟩,⟨73786976294838206464,0,0⟩,⟨0,73786976294838222848,604462909807314587353089⟩,⟨147573952589676412928,0,0⟩,⟨0,147573952589676429312,2417851639229258349412353⟩,⟨295147905179352825856,0,0⟩,⟨0,295147905179352842240,9671406556917033397649409⟩,⟨590295810358705651712,4,0⟩,⟨0,590295810358705668096,38685626227668133590597633⟩,⟨1180591620717411303424,4,0⟩,⟨0,1180591620717411319808,154742504910672534362390529⟩,⟨2361183241434822606848,4,0⟩,⟨0,2361183241434822623232,618970019642690137449562113⟩,⟨4722366482869645213696,0,2361183241434822606848⟩,⟨9444732965739290427392,4722366482869645213696,2475880078570760549798248448⟩,⟨18889465931478580854784,9444732965739290427392,4951760157141521099596496896⟩,⟨0,18889465931478580871168,9903520314283042199192993793⟩,⟨37778931862957161709568,0,2475880078570760549798248448⟩,⟨75557863725914323419136,37778931862957161709568,39614081257132168796771975168⟩,⟨151115727451828646838272,0,79228162514264337593543950336⟩,⟨302231454903657293676544,226673591177742970257408,237684487542793012780631851008⟩,⟨604462909807314587353088,302231454903657293676544,316912650057057350374175801344⟩,⟨0,604462909807314587369472,633825300114114700748351602689⟩,⟨1208925819614629174706176,0,158456325028528675187087900672⟩,⟨2417851639229258349412352,0,2535301200456458802993406410752⟩,⟨4835703278458516698824704,2417851639229258349412352,5070602400912917605986812821504⟩,⟨9671406556917033397649408,0,10141204801825835211973625643008⟩,⟨19342813113834066795298816,15716035654990179271180288,32958915605933964438914283339776⟩,⟨38685626227668133590597632,19342813113834066795298816,40564819207303340847894502572032⟩,⟨0,38685626227668133590614016,81129638414606681695789005144065⟩,⟨77371252455336267181195264,4,0⟩,⟨0,77371252455336267181211648,324518553658426726783156020576257⟩,⟨154742504910672534362390528,16384,1298074214633706907132624082305023⟩,⟨1,154742504910672534362390528,2596148429267413814265248164610047⟩]
def aeR:List Row×List (Bool×Nat)×pC×List (Bool×Nat):=(acd,[(true,1),(true,2),(true,3),(true,5),(true,6),(true,7),(true,9),(true,11),(true,13),(true,14),(true,15),(true,17),(true,19),(true,21),(true,22),(true,23),(true,25),(true,26),(true,27),(true,29),(true,30),(true,31),(true,33),(true,35),(true,36),(true,37),(true,39),(true,40),(true,41),(true,43),(true,44),(true,45),(true,47),(true,49),(true,50),(true,51),(true,53),(true,55),(true,57),(true,58),(true,59),(true,61),(true,63),(true,65),(true,67),(true,69),(true,71),(true,72),(true,73),(true,75),(true,77),(true,79),(true,81),(true,83),(true,85),(true,87),(true,89),(true,91),(true,92),(true,93),(true,95),(true,96),(true,97),(true,98),(true,99),(true,101),(true,102),(true,103),(true,104),(true,105),(true,106),(true,108),(false,0)],⟨166,14,.u8,[4,8,10,12,16,18,20,24,28,32,34,38,42,46,48,52,54,56,60,62,64,66,68,70,74,76,78,80,82,84,86,88,90,94,100,107,109]⟩,[(true,110),(true,111)])
noncomputable def V1:jP:=⟨K,Z7,pf1,smT sm1,λ _ _ _=>none,λ _=>false,136,λ f r=>cond (Nat.beq f 130&&Nat.beq r 4) (some aeR) none⟩
theorem ail:th V1:=⟨Wa afu,λ _ _ _ _ _ h=>(by cases h),λ _ h=>(by cases h),GZ⟩
theorem Et:Pure K 130 [] qU:=Pure.gu (V:=V1) ail 1000 10 jT (by kernel_rfl)
end Go.Rip
namespace Go.Rip
open Go.RowKit
theorem TE {α:Type} (f:α->AV×AV) (l:List α):∀ {x:AV×AV} {r:List (AV×AV)},(x,r)∈u4 (l.map f)->∃ a l',x=f a/\r=l'.map f/\(a::l').Perm l:=by
 induction l with
 | nil=>intro _ _ h; cases h
 | cons b l ih =>
   intro x r h;simp only[dH,u4,cK,List.mem_map]at h;rcases h with h|⟨p,h1,h2⟩
   . cases h; exact⟨b,l,rfl,rfl,.refl _⟩
   . obtain⟨a,l',he,hr,hp⟩:=ih (x:=p.1) (r:=p.2) h1;cases h2;exact⟨a,b::l',he,by rw[hr]; rfl,(List.Perm.swap ..).trans (hp.cons b)⟩
theorem Gw {C:de} {o:Nat} {U:St} {α:Type} {f:α->AV×AV} {l:List α} {c:Option (AV×AV)} {k kp:AV->St->Prop} (h:U.iter o=some (l.map f,c))
 (h0:l=[]->k (.aK [.bool false]) U) (h1:∀ a l',(a::l').Perm l->k (.aK [.bool true,(f a).1,(f a).2]) (U.set o (.iter (l'.map f) (some (f a))))):(tY (.it o) U).wp C U k kp:=by
 cases l with
 | nil=>simp only[tY,h,oB]; exact h0 rfl
 | cons b l =>
   simp only[tY,h,dH];intro p hp;obtain⟨q,hq,rfl⟩:=List.mem_map.1 hp;obtain⟨x,r⟩:=q;obtain⟨a,l',rfl,rfl,Kl⟩:=TE f (b::l) hq;exact h1 a l' Kl
@[simp] theorem iter_set (U:St) (b y:Nat) (r:List (AV×AV)) (c:Option (AV×AV)):(U.set b (.iter r c)).iter y=if y=b then some (r,c) else U.iter y:=by
 simp only[St.iter,St.set]; by_cases h:y=b<;>simp[h]
@[simp] theorem ajg (U:St) (b y:Nat) (r:List (AV×AV)) (c:Option (AV×AV)):(U.new b (.iter r c)).iter y=if y=b then some (r,c) else U.iter y:=by
 simp only[St.iter,St.new]; by_cases h:y=b<;>simp[h]
abbrev OpL:=Int×List (List UInt8×Int)
def opsL:List OpL:=[(2,[([111,114],17)]),(3,[([97,110,100],18)]),(5,[([60],21),([61],20)]),(6,[([43],22),([45],23)]),(7,[([42],24)]),(8,[([97,115],25)])]
def kh (p:List UInt8×Int):AV×AV:=(.str p.1,.int .u8 p.2)
def vO (p:OpL):AV×AV:=(.int .i64 p.1,.gJ (p.2.map λ q=>(kh q).1) (p.2.map λ q=>(kh q).2))
def opsV:AV:=.gJ (opsL.map λ p=>(vO p).1) (opsL.map λ p=>(vO p).2)
def sG (k:Int):Int:=match opsL.find? (λ p=>p.2.any λ q=>q.2==k) with
 | some p=>p.1
 | none=>if k=9 then 0 else if k=19 then 4 else if 10<=k/\k<=16 then 1 else 9
theorem zip_map {α:Type} (f:α->AV×AV) (l:List α):(l.map λ p=>(f p).1).zip (l.map λ p=>(f p).2)=l.map f:=by
 induction l with
 | nil=>rfl
 | cons a l ih=>simp[ih]
theorem Tb:∀ p∈opsL,∀ q∈p.2,sG q.2=p.1:=by decide
theorem Qo {k:Int} (h:∀ p∈opsL,∀ q∈p.2,q.2≠k):sG k=if k=9 then 0 else if k=19 then 4 else if 10<=k/\k<=16 then 1 else 9:=by
 have:opsL.find? (λ p=>p.2.any λ q=>q.2==k)=none:=by
  rw[List.find?_eq_none];intro p hp hq;simp only[List.any_eq_true,beq_iff_eq]at hq;obtain⟨q,hq,e⟩:=hq;exact h p hp q hq e
 simp only[sG,this]
theorem Qh {U:St} {o q:Nat} {x:List (AV×AV)×Option (AV×AV)} (hq:U.dL q) (h:U.iter o=some x):o≠q:=λ e=>by
 subst e;simp[St.iter,hq.1]at h
theorem Rl (i:Nat):closed (K.AM i)=true:=by
 show closed (if i=0 then .da xL else if i=7 then .da ym else .any)=true
 split
 . decide +kernel
 . split
   . decide +kernel
   . rfl
theorem Qn {L:List AV} (h2:L[2]?=some opsV) (k:Int) (U:St) (R:cV->St->Prop) (hR:∀ ad,R (.ret (.int .i64 (sG k))) ad):ae K 236 [.da L,.int .u8 k] U R:=by
 refine VO ?_;have hL:jH (L.drop 2)=.val opsV:=by
  have:L.drop 2=opsV::L.drop 3:=by
   rw[gM (dp.1 h2).1];simp[(dp.1 h2).2]
  rw[this]; rfl
 have hrg:∀ (l:List OpL) fk,vU (some fk) (.gJ (l.map λ p=>(vO p).1) (l.map λ p=>(vO p).2))=.new .it none (.iter (l.map vO) none):=λ l fk=>by rw[<- zip_map]; rfl
 have Xr:∀ (l:List (List UInt8×Int)) fk,vU (some fk) (.gJ (l.map λ p=>(kh p).1) (l.map λ p=>(kh p).2))=.new .it none (.iter (l.map kh) none):=λ l fk=>by rw[<- zip_map]; rfl
 simp only[VN,Aj,al,dC,wK,hL,opsV,hrg,lR,NV.at];intro o ho;refine⟨λ m v1 cn ad=>∃ l done c,v1=.int .u8 k/\cn=.it o/\ad.iter o=some (l.map vO,c)/\m=l.length/\(done++l).Perm opsL/\∀ p∈done,∀ q∈p.2,q.2≠k,⟨6,opsL,[],none,rfl,rfl,by simp,rfl,.refl _,by simp⟩,?_⟩;rintro m v1 cn ad ⟨l,done,c,rfl,rfl,hit,rfl,hp,hd⟩;refine Gw hit (λ hl=>?_) (λ a l' Kl=>?_)
 . subst hl;simp only[bp,eG,dT,al,bq];have ahe:∀ p∈opsL,∀ q∈p.2,q.2≠k:=λ p KI=>hd p (by have:=hp.mem_iff (a:=p); simp at this; exact this.2 KI);have pQ:=Qo ahe;simp (contextual:=true) [-Int.not_le,-Int.not_lt,Fl,C9,cq]
   repeat' (first|refine And.intro ?_ ?_|intro _)
   all_goals (refine aq.eq (hR _) ?_; rw[pQ]; simp only[AV.int.injEq,true_and])
   all_goals grind
 . simp only[bp,eG,dT,al,bH];have he:oe (.it o) (ad.set o (.iter (l'.map vO) (some (vO a))))=.val (.aK [(vO a).1,(vO a).2]):=by simp[oe]
   have e2:(vO a).2=.gJ (a.2.map λ q=>(kh q).1) (a.2.map λ q=>(kh q).2):=rfl;simp only[he,al,bp,eG,List.drop_succ_cons,dT];rw[e2,Xr];simp only[lR,NV.at];intro o2 ZJ;have ca:o≠o2:=Qh (x:=(l'.map vO,some (vO a))) ZJ (by simp);refine⟨λ m v1 v5 cn v20 ad=>∃ l2 lr c2 c,v1=.int .u8 k/\v5=.int .i64 a.1/\cn=.it o/\v20=.it o2/\ad.iter o2=some (l2.map kh,c2)/\ad.iter o=some (l'.map vO,c)/\m=l2.length/\(lr++l2).Perm a.2/\∀ q∈lr,q.2≠k,⟨a.2.length,a.2,[],none,some (vO a),rfl,rfl,rfl,rfl,by simp,by simp[ca],rfl,.refl _,by simp⟩,?_⟩;rintro m v1 v5 cn v20 bf ⟨l2,lr,c2,c3,rfl,rfl,rfl,rfl,aiJ,aeE,rfl,yb,qV⟩;refine Gw aiJ (λ hl=>?_) (λ b l3 wB=>?_)
   . subst hl;simp only[bp,eG,dT,al,bq];have hlen:l'.length<l.length:=by rw[<- Kl.length_eq]; simp
     refine⟨l'.length,hlen,l',done++[a],c3,rfl,rfl,aeE,rfl,?_,?_⟩
     . rw[dc];exact (List.Perm.append_left done Kl).trans hp
     . intro p KI q hq;rcases fT.1 KI with h|h
       . exact hd p h q hq
       . simp only[kn]at h;subst h;exact qV q (by have:=yb.mem_iff (a:=q); simp at this; exact this.2 hq)
   . have he2:oe (.it o2) (bf.set o2 (.iter (l3.map kh) (some (kh b))))=.val (.aK [(kh b).1,(kh b).2]):=by simp[oe]
     simp only[bp,eG,dT,al,bH];rw[he2];simp only[bp,eG,dT,al,List.drop_succ_cons,kh,bA,cq];have hb:b∈a.2:=yb.mem_iff.1 (List.mem_append_right _ (wB.mem_iff.1 (by simp)));have ha:a∈opsL:=hp.mem_iff.1 (List.mem_append_right _ (Kl.mem_iff.1 (by simp)));refine⟨λ hk=>?_,λ hk=>?_⟩
     . refine aq.eq (hR _) ?_;rw[<- hk,Tb a ha b hb]
     . have hlen:l3.length<l2.length:=by rw[<- wB.length_eq]; simp
       refine⟨l3.length,hlen,l3,lr++[b],some (kh b),c3,rfl,rfl,rfl,rfl,by simp[kh],by simp[ca,aeE],rfl,?_,?_⟩
       . rw[dc];exact (List.Perm.append_left lr wB).trans yb
       . intro q hq;rcases fT.1 hq with h|h
         . exact qV q h
         . simp only[kn]at h;subst h; exact hk
theorem Qp {L:List AV} (h2:L[2]?=some opsV) (hc:cD L=true) (k:Int):Pure K 236 [.da L,.int .u8 k] (.int .i64 (sG k)) :=
 Pure.Cn Rl (by simp[cD,closed,hc]) rfl 1 (Qn h2 k _ _ λ ad=>⟨_,rfl,rfl⟩)
theorem xi:∀ (l:List AV),cD (l.map λ _=>AV.any)=true
 | []=>rfl
 | x::l=>by simp[cD,closed,xi l]
theorem Bd {b:Nat} {x y:AV} {l:List AV} {k:Int} {U:St} {R:cV->St->Prop} (hb:U.box b=some (x::y::opsV::l)) (hR:R (.ret (.int .i64 (sG k))) U):ae K 236 [.box b 0,.int .u8 k] U R:=by
 refine ae.aca 5 Rl (args0:=[.da (.any::.any::opsV::l.map λ _=>.any),.int .u8 k]) (λ g vs h=>?_) ?_ rfl (Qp rfl ?_ k) hR
 . have e:([.box b 0,.int .u8 k]:List AV).map (resolve 5 U)=[.da (resolve 4 U x::resolve 4 U y::opsV::l.map (resolve 4 U)),.int .u8 k]:=by
    simp only[dH,oB,resolve,hb,eG];rfl
   rw[e]at h;refine Wk.da (.drop _ (.drop _ (.aY _ ?_))) h;have:=Wk.any (l.map (resolve 4 U));rw[List.map_map]at this; exact this
 . simp only[cD,closed,xi,Bool.and_true,Bool.true_and]; decide +kernel
 . simp only[cD,closed,xi,Bool.and_true,Bool.true_and]; decide +kernel
end Go.Rip
namespace Go.Rip
open Go.RowKit
def QW (f:Nat) (args:List AV) (e:ES):Option (AV×ES):=match args with
 | [.box b 0,.int .u8 k]=>cond (Nat.beq f 236) (match (bU e).box b with|some (_::_::m::_)=>cond (kD m opsV) (some (.int .i64 (sG k),e)) none|_=>none) none
 | _=>YC f args e
theorem ma {α:Type} {b:Bool} {x:Option α} {y:α} (h:cond b x none=some y):b=true/\x=some y:=by
 cases b with
 | true=>exact⟨rfl,h⟩
 | false=>cases h
theorem YD:∀ f args x,QX f args=some x->Pure K f args x:=by
 intro f args x h;unfold QX at h;split at h
 . obtain⟨h1,h2⟩:=ma h;simp only[cb,eg]at h1;obtain⟨h3,h4,h5⟩:=h1;have:=fP h3;subst this;cases h2;rename_i s c;have e:=yg s c;rw[uE]at e;have e2:(c.toNat.toUInt8).toNat=c.toNat:=by simp[Nat.toUInt8]; omega
   rw[e2]at e; exact e
 . obtain⟨h1,h2⟩:=ma h;have:=fP h1;subst this;cases h2;rename_i s c;have e:=yh s c;rw[uE]at e; exact e
 . obtain⟨h1,h2⟩:=ma h;simp only[cb,eg]at h1;obtain⟨h3,h4,h5⟩:=h1;have:=fP h3;subst this;cases h2;rename_i n;have e:=HL n (by omega) (by omega);have e2:Lib.itoa n=J0 8 n.toNat:=by
    rw[NI 7 n.toNat (by omega)];unfold Lib.itoa;rw[if_neg (by omega)]
   rw[e2]at e; exact e
 . cases h
theorem ach:∀ f args e x e',YC f args e=some (x,e')->∀ R,R (.ret x) (bU e')->ae K f args (bU e) R:=by
 intro f args e x e' h R hR;unfold YC at h;split at h
 . rename_i b;cases h1:Nat.beq f 190 with
   | true =>
     have:=fP h1;subst this;rw[h1,cond_true]at h;split at h
     . rename_i t y hb;obtain⟨h2,h3⟩:=ma h;have:=fP h2;subst this;cases h3;refine wo (y:=y) hb ?_;rw[pb]at hR; exact hR
     . rename_i b' rest hb;obtain⟨h2,h3⟩:=ma h;have:=fP h2;subst this;cases h3;exact tm (rest:=rest) (by show (match (bU e).live b' with|some (.box l)=>some l|some (.uS _ l)=>some l|_=>none)=_; rw[show (bU e).live b'=e.live.get b' from rfl,hb]) hR
     . cases h
   | false =>
     rw[h1,cond_false]at h;obtain⟨h2,h3⟩:=ma h;have:=fP h2;subst this;split at h3
     . rename_i a n τ l hb;split at h3
       . rename_i c bs m AR ht;obtain⟨h4,h5⟩:=ma h3;simp only[cb]at h4;have e1:=fP h4.1;have e2:=fP h4.2;subst e1;cases h5;have e3:=Ej AR;refine xN (a:=a) (l:=c::bs) (τ:=τ) (by simp) (by rw[hb,e3,e2]; rfl) (by rw[ht,e2]; rfl) ?_;rw[DZ]at hR; exact hR
       . cases h3
     . rename_i a hb;cases h3;exact uh (a:=a) hb hR
     . cases h3
 . cases h
theorem OY:∀ f args e x e',QW f args e=some (x,e')->∀ R,R (.ret x) (bU e')->ae K f args (bU e) R:=by
 intro f args e x e' h R hR;unfold QW at h;split at h
 . obtain⟨h1,h2⟩:=ma h;have:=fP h1;subst this;split at h2
   . rename_i m l hb;obtain⟨h3,h4⟩:=ma h2;have:=xP h3;subst this;cases h4;exact Bd hb hR
   . cases h2
 . exact ach f args e x e' h R hR
def smV (f:Nat) (args:List AV):Option AV:=match args with
 | []=>cond (Nat.beq f 153) (some FV) (cond (Nat.beq f 96) (some Bq) (cond (Nat.beq f 97) (some tu) (cond (Nat.beq f 130) (some qU) none)))
 | _=>QX f args
theorem afw:∀ f args x,smV f args=some x->Pure K f args x:=by
 intro f args x h;unfold smV at h;split at h
 . cases h1:Nat.beq f 153 with
   | true=>rw[h1]at h; have:=fP h1; subst this; cases h; exact FY
   | false =>
     rw[h1,cond_false]at h;cases h1:Nat.beq f 96 with
     | true=>rw[h1]at h; have:=fP h1; subst this; cases h; exact DL
     | false =>
       rw[h1,cond_false]at h;cases h1:Nat.beq f 97 with
       | true=>rw[h1]at h; have:=fP h1; subst this; cases h; exact CL
       | false =>
         rw[h1,cond_false]at h;obtain⟨h1,h2⟩:=ma h;have:=fP h1; subst this; cases h2; exact Et
 . exact YD f args x h
def pfV (f:Nat):Bool:=Nat.beq f 153||(Nat.beq f 96||(Nat.beq f 97||(Nat.beq f 130||(Nat.beq f 214||(Nat.beq f 243||Nat.beq f 257)))))
noncomputable def V2:jP:=⟨K,Z7,pfV,smV,QW,λ f=>Nat.beq f 54,136,λ _ _=>none⟩
theorem Pd:th V2:=⟨afw,OY,λ f h=>by have:=fP h; subst this; exact D5,GZ⟩
end Go.Rip
