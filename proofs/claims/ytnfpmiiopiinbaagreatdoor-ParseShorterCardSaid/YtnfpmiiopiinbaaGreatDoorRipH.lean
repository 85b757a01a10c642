/- Lemmas for the proof: no conditions. -/
import Derived.Test.YtnfpmiiopiinbaaGreatDoorRipZz
import Derived.Test.YtnfpmiiopiinbaaGreatDoorRipE
import Derived.Test.YtnfpmiiopiinbaaGreatDoorRipD
import Derived.Test.YtnfpmiiopiinbaaGreatDoorRipB
import Derived.Test.YtnfpmiiopiinbaaGreatDoorRipG
import Derived.Test.YtnfpmiiopiinbaaGreatDoorRipC
set_option linter.unusedVariables false
set_option linter.unusedSimpArgs false
set_option linter.loopingSimpArgs false
set_option maxRecDepth 100000
namespace Go.Rip
open Go.Proofs
def XC (l:List (Nat × List AV × AV)) (f:Nat) (args:List AV):Option AV:=match l.find? (fun x=>Nat.beq x.1 f && pQ x.2.1 args) with
 | some x=>some x.2.2
 | none=>none
theorem Tf {l:List (Nat × List AV × AV)} (h:∀ x ∈ l,Pure K x.1 x.2.1 x.2.2) (f:Nat) (args:List AV) (x:AV) (hx:XC l f args=some x):Pure K f args x:=by
 unfold XC at hx
 split at hx
 . rename_i y hy
   cases hx
   have h1:=List.find?_some hy
   simp only [bS] at h1
   have e1:=fp h1.1
   have e2:=lA h1.2
   have:=h y (List.mem_of_find?_eq_some hy)
   rw [e1,e2] at this
   exact this
 . cases hx
theorem js:∀ i,closed (K.zn i)=true:=fun i=>by
 show closed (if i=0 then .cQ wq else if i=7 then .cQ xe else .any)=true
 split
 . decide +kernel
 . split
   . decide +kernel
   . rfl
def W3 (f:Nat):List Nat:=cond (Nat.beq f 110 || (Nat.beq f 69 || Nat.beq f 157)) (List.range 100) []
noncomputable def V0:jm:=⟨K,W3,fun _=>false,fun _ _=>none,fun _ _ _=>none,fun _=>false,136,fun _ _=>none⟩
theorem pd:r9 V0:=⟨fun _ _ _ h=>(by cases h),fun _ _ _ _ _ h=>(by cases h),fun _ h=>(by cases h),Hk⟩
def D3:AV:=.ga [.str [97,110,100],.str [97,115],.str [98,111,111,108],.str [99,101,108,108],.str [99,104,111,111,115,101],.str [99,111,109],.str [100,101,102],.str [100,111],.str [101,108,115,101],.str [101,120,112,111,114,116],.str [102,97,108,115,101],.str [102,110],.str [103,101,116],.str [104,97,110,103],.str [105,102],.str [105,109,112,111,114,116],.str [105,110],.str [105,110,116],.str [106,117,109,112],.str [108,97,98,101,108],.str [110,101,119],.str [110,111,116],.str [110,111,116,105,99,101],.str [111,102],.str [111,114],.str [112,117,116],.str [115,107,105,112],.str [116,104,101,110],.str [116,114,117,101],.str [119,104,105,108,101]] [.bool true,.bool true,.bool true,.bool true,.bool true,.bool true,.bool true,.bool true,.bool true,.bool true,.bool true,.bool true,.bool true,.bool true,.bool true,.bool true,.bool true,.bool true,.bool true,.bool true,.bool true,.bool true,.bool true,.bool true,.bool true,.bool true,.bool true,.bool true,.bool true,.bool true]
def zR:AV:=.ga [.int .i64 2,.int .i64 3,.int .i64 5,.int .i64 6,.int .i64 7,.int .i64 8] [.ga [.str [111,114]] [.int .u8 17],.ga [.str [97,110,100]] [.int .u8 18],.ga [.str [60],.str [61]] [.int .u8 21,.int .u8 20],.ga [.str [43],.str [45]] [.int .u8 22,.int .u8 23],.ga [.str [42]] [.int .u8 24],.ga [.str [97,115]] [.int .u8 25]]
def se:AV:=.ga [.str [99,104,111,111,115,101],.str [105,102],.str [108,97,98,101,108],.str [110,101,119],.str [110,111,116,105,99,101],.str [119,104,105,108,101]] [.func (.func 162) [] [],.func (.func 158) [] [],.func (.func 161) [] [],.func (.func 160) [] [],.func (.func 163) [] [],.func (.func 159) [] []]
def p6:AV:=.ga [.int .u8 1,.int .u8 2,.int .u8 3,.int .u8 4,.int .u8 5,.int .u8 6,.int .u8 7,.int .u8 8,.int .u8 9,.int .u8 10,.int .u8 11,.int .u8 12,.int .u8 13,.int .u8 14,.int .u8 15,.int .u8 16,.int .u8 17,.int .u8 18,.int .u8 19,.int .u8 20,.int .u8 21,.int .u8 22,.int .u8 23,.int .u8 24,.int .u8 25,.int .u8 26,.int .u8 27,.int .u8 28,.int .u8 29,.int .u8 30,.int .u8 31,.int .u8 32,.int .u8 33,.int .u8 34,.int .u8 35,.int .u8 36,.int .u8 37] [.agg [.bool false,.bool false,.bool false,.vec 1 .full [.func (.func 179) [] [],.int .i64 0,.int .i64 900]],.agg [.bool true,.bool false,.bool false,.vec 1 .full [.func (.func 181) [] [],.int .i64 1,.int .i64 1]],.agg [.bool true,.bool false,.bool false,.vec 3 .full [.func (.func 242) [] [.cQ [.int .u8 5]],.int .i64 0,.int .i64 900,.func (.func 206) [] [],.int .i64 1,.int .i64 1,.func (.func 185) [] [],.int .i64 1,.int .i64 1]],.agg [.bool true,.bool false,.bool false,.vec 3 .full [.func (.func 242) [] [.cQ [.int .u8 5]],.int .i64 0,.int .i64 900,.func (.func 206) [] [],.int .i64 1,.int .i64 1,.func (.func 185) [] [],.int .i64 1,.int .i64 1]],.agg [.bool true,.bool false,.bool false,.vec 1 .full [.func (.func 181) [] [],.int .i64 1,.int .i64 1]],.agg [.bool false,.bool true,.bool false,.aq],.agg [.bool false,.bool true,.bool false,.aq],.agg [.bool false,.bool false,.bool false,.vec 1 .full [.func (.func 206) [] [],.int .i64 2,.int .i64 900]],.agg [.bool false,.bool false,.bool false,.vec 1 .full [.func (.func 185) [] [],.int .i64 2,.int .i64 900]],.agg [.bool false,.bool false,.bool false,.vec 1 .full [.func (.func 185) [] [],.int .i64 3,.int .i64 3]],.agg [.bool false,.bool false,.bool false,.vec 1 .full [.func (.func 185) [] [],.int .i64 2,.int .i64 2]],.agg [.bool true,.bool true,.bool true,.vec 1 .full [.func (.func 185) [] [],.int .i64 1,.int .i64 1]],.agg [.bool true,.bool false,.bool false,.vec 1 .full [.func (.func 185) [] [],.int .i64 2,.int .i64 2]],.agg [.bool true,.bool true,.bool false,.vec 1 .full [.func (.func 185) [] [],.int .i64 1,.int .i64 1]],.agg [.bool false,.bool false,.bool false,.vec 1 .full [.func (.func 185) [] [],.int .i64 2,.int .i64 2]],.agg [.bool true,.bool false,.bool false,.vec 1 .full [.func (.func 185) [] [],.int .i64 1,.int .i64 1]],.agg [.bool false,.bool false,.bool false,.vec 1 .full [.func (.func 185) [] [],.int .i64 2,.int .i64 2]],.agg [.bool false,.bool false,.bool false,.vec 1 .full [.func (.func 185) [] [],.int .i64 2,.int .i64 2]],.agg [.bool false,.bool false,.bool false,.vec 1 .full [.func (.func 185) [] [],.int .i64 1,.int .i64 1]],.agg [.bool false,.bool false,.bool false,.vec 1 .full [.func (.func 185) [] [],.int .i64 2,.int .i64 2]],.agg [.bool false,.bool false,.bool false,.vec 1 .full [.func (.func 185) [] [],.int .i64 2,.int .i64 2]],.agg [.bool false,.bool false,.bool false,.vec 1 .full [.func (.func 185) [] [],.int .i64 2,.int .i64 2]],.agg [.bool false,.bool false,.bool false,.vec 1 .full [.func (.func 185) [] [],.int .i64 2,.int .i64 2]],.agg [.bool false,.bool false,.bool false,.vec 1 .full [.func (.func 185) [] [],.int .i64 2,.int .i64 2]],.agg [.bool false,.bool true,.bool false,.vec 1 .full [.func (.func 185) [] [],.int .i64 1,.int .i64 1]],.agg [.bool false,.bool true,.bool false,.aq],.agg [.bool false,.bool false,.bool false,.aq],.agg [.bool false,.bool false,.bool false,.aq],.agg [.bool false,.bool false,.bool false,.aq],.agg [.bool false,.bool false,.bool false,.aq],.agg [.bool true,.bool false,.bool false,.aq],.agg [.bool true,.bool false,.bool false,.aq],.agg [.bool true,.bool false,.bool false,.aq],.agg [.bool true,.bool false,.bool false,.vec 1 .full [.func (.func 207) [] [],.int .i64 1,.int .i64 900]],.agg [.bool false,.bool false,.bool false,.vec 2 .full [.func (.func 242) [] [.cQ [.int .u8 37]],.int .i64 1,.int .i64 900,.func (.func 185) [] [],.int .i64 1,.int .i64 1]],.agg [.bool false,.bool false,.bool false,.vec 3 .full [.func (.func 185) [] [],.int .i64 1,.int .i64 1,.func (.func 242) [] [.cQ [.int .u8 37]],.int .i64 1,.int .i64 1,.func (.func 185) [] [],.int .i64 1,.int .i64 1]],.agg [.bool true,.bool false,.bool false,.aq]]
theorem D5:Pure K 153 [] D3:=Pure.fP (V:=V0) pd 1000 10 js (by kernel_rfl)
theorem Cf:Pure K 96 [] zR:=Pure.fP (V:=V0) pd 1000 10 js (by kernel_rfl)
theorem Bc:Pure K 97 [] se:=Pure.fP (V:=V0) pd 1000 10 js (by kernel_rfl)
def jZ (n:Nat):AV:=.func (.func n) [] []
def pS (n:Int):AV:=.func (.func 242) [] [.cQ [.int .u8 n]]
theorem so0:Pure K 202 [.int .i64 2,jZ 185] (.agg [jZ 185,.int .i64 2,.int .i64 2]):=Pure.fP (V:=V0) pd 1000 10 js (by kernel_rfl)
theorem so1:Pure K 202 [.int .i64 3,jZ 185] (.agg [jZ 185,.int .i64 3,.int .i64 3]):=Pure.fP (V:=V0) pd 1000 10 js (by kernel_rfl)
theorem so2:Pure K 203 [.int .i64 0,jZ 179] (.agg [jZ 179,.int .i64 0,.int .i64 900]):=Pure.fP (V:=V0) pd 1000 10 js (by kernel_rfl)
theorem so3:Pure K 203 [.int .i64 2,jZ 206] (.agg [jZ 206,.int .i64 2,.int .i64 900]):=Pure.fP (V:=V0) pd 1000 10 js (by kernel_rfl)
theorem so4:Pure K 203 [.int .i64 2,jZ 185] (.agg [jZ 185,.int .i64 2,.int .i64 900]):=Pure.fP (V:=V0) pd 1000 10 js (by kernel_rfl)
theorem so5:Pure K 203 [.int .i64 1,jZ 207] (.agg [jZ 207,.int .i64 1,.int .i64 900]):=Pure.fP (V:=V0) pd 1000 10 js (by kernel_rfl)
theorem so6:Pure K 203 [.int .i64 1,pS 37] (.agg [pS 37,.int .i64 1,.int .i64 900]):=Pure.fP (V:=V0) pd 1000 10 js (by kernel_rfl)
theorem so7:Pure K 203 [.int .i64 0,pS 5] (.agg [pS 5,.int .i64 0,.int .i64 900]):=Pure.fP (V:=V0) pd 1000 10 js (by kernel_rfl)
theorem so8:Pure K 205 [jZ 181] (.agg [jZ 181,.int .i64 1,.int .i64 1]):=Pure.fP (V:=V0) pd 1000 10 js (by kernel_rfl)
theorem so9:Pure K 205 [jZ 185] (.agg [jZ 185,.int .i64 1,.int .i64 1]):=Pure.fP (V:=V0) pd 1000 10 js (by kernel_rfl)
theorem af8:Pure K 205 [jZ 206] (.agg [jZ 206,.int .i64 1,.int .i64 1]):=Pure.fP (V:=V0) pd 1000 10 js (by kernel_rfl)
theorem af9:Pure K 205 [pS 37] (.agg [pS 37,.int .i64 1,.int .i64 1]):=Pure.fP (V:=V0) pd 1000 10 js (by kernel_rfl)
theorem aga:Pure K 204 [.int .u8 5] (pS 5):=Pure.fP (V:=V0) pd 1000 10 js (by kernel_rfl)
theorem agb:Pure K 204 [.int .u8 37] (pS 37):=Pure.fP (V:=V0) pd 1000 10 js (by kernel_rfl)
def sm1:List (Nat × List AV × AV):=[(202,[.int .i64 2,jZ 185],.agg [jZ 185,.int .i64 2,.int .i64 2]),
 (202,[.int .i64 3,jZ 185],.agg [jZ 185,.int .i64 3,.int .i64 3]),
 (203,[.int .i64 0,jZ 179],.agg [jZ 179,.int .i64 0,.int .i64 900]),
 (203,[.int .i64 2,jZ 206],.agg [jZ 206,.int .i64 2,.int .i64 900]),
 (203,[.int .i64 2,jZ 185],.agg [jZ 185,.int .i64 2,.int .i64 900]),
 (203,[.int .i64 1,jZ 207],.agg [jZ 207,.int .i64 1,.int .i64 900]),
 (203,[.int .i64 1,pS 37],.agg [pS 37,.int .i64 1,.int .i64 900]),
 (203,[.int .i64 0,pS 5],.agg [pS 5,.int .i64 0,.int .i64 900]),
 (205,[jZ 181],.agg [jZ 181,.int .i64 1,.int .i64 1]),
 (205,[jZ 185],.agg [jZ 185,.int .i64 1,.int .i64 1]),
 (205,[jZ 206],.agg [jZ 206,.int .i64 1,.int .i64 1]),
 (205,[pS 37],.agg [pS 37,.int .i64 1,.int .i64 1]),
 (204,[.int .u8 5],pS 5),
 (204,[.int .u8 37],pS 37)]
theorem aca:∀ x ∈ sm1,Pure K x.1 x.2.1 x.2.2:=by
 intro x hx
 simp only [sm1,cJ,List.not_mem_nil,or_false] at hx
 rcases hx with rfl | rfl | rfl | rfl | rfl | rfl | rfl | rfl | rfl | rfl | rfl | rfl | rfl | rfl
 . exact so0
 . exact so1
 . exact so2
 . exact so3
 . exact so4
 . exact so5
 . exact so6
 . exact so7
 . exact so8
 . exact so9
 . exact af8
 . exact af9
 . exact aga
 . exact agb
def pf1 (f:Nat):Bool:=Nat.beq f 202 || (Nat.beq f 203 || (Nat.beq f 204 || Nat.beq f 205))
def Y3:List Row:=[⟨16384,0,0⟩,⟨32768,0,0⟩,⟨65536,32768,2⟩,⟨131072,65536,4⟩,⟨0,147456,9⟩,⟨262144,0,2⟩,⟨524288,262144,32⟩,⟨1048576,524288,64⟩,⟨0,1064960,129⟩,⟨2097152,8,0⟩,⟨0,2113536,513⟩,⟨4194304,8,0⟩,⟨0,4210688,2049⟩,⟨8388608,0,32⟩,⟨16777216,8388608,8192⟩,⟨33554432,16777216,16384⟩,⟨0,33570816,32769⟩,⟨67108864,0,0⟩,⟨0,67125248,131073⟩,⟨134217728,0,0⟩,⟨0,134234112,524289⟩,⟨268435456,0,8192⟩,⟨536870912,268435456,2097152⟩,⟨1073741824,536870912,4194304⟩,⟨0,1073758208,8388609⟩,⟨2147483648,0,2097152⟩,⟨4294967296,2147483648,33554432⟩,⟨8589934592,4294967296,67108864⟩,⟨0,8589950976,134217729⟩,⟨17179869184,0,33554432⟩,⟨34359738368,17179869184,536870912⟩,⟨68719476736,34359738368,1073741824⟩,⟨0,68719493120,2147483649⟩,⟨137438953472,2,0⟩,⟨0,137438969856,8589934593⟩,⟨274877906944,0,536870912⟩,⟨549755813888,274877906944,34359738368⟩,⟨1099511627776,549755813888,68719476736⟩,⟨0,1099511644160,137438953473⟩,⟨2199023255552,2,0⟩,⟨4398046511104,2199023255552,549755813888⟩,⟨8796093022208,4398046511104,1099511627776⟩,⟨0,8796093038592,2199023255553⟩,⟨17592186044416,0,34359738368⟩,⟨35184372088832,17592186044416,8796093022208⟩,⟨70368744177664,35184372088832,17592186044416⟩,⟨0,70368744194048,35184372088833⟩,⟨140737488355328,2,0⟩,⟨0,140737488371712,140737488355329⟩,⟨281474976710656,0,8796093022208⟩,⟨562949953421312,281474976710656,562949953421312⟩,⟨1125899906842624,562949953421312,1125899906842624⟩,⟨0,1125899906859008,2251799813685249⟩,⟨2251799813685248,2,0⟩,⟨0,2251799813701632,9007199254740993⟩,⟨4503599627370496,2,0⟩,⟨0,4503599627386880,36028797018963969⟩,⟨9007199254740992,0,562949953421312⟩,⟨18014398509481984,9007199254740992,144115188075855872⟩,⟨36028797018963968,18014398509481984,288230376151711744⟩,⟨0,36028797018980352,576460752303423489⟩,⟨72057594037927936,2,0⟩,⟨0,72057594037944320,2305843009213693953⟩,⟨144115188075855872,2,0⟩,⟨0,144115188075872256,9223372036854775809⟩,⟨288230376151711744,2,0⟩,⟨0,288230376151728128,36893488147419103233⟩,⟨576460752303423488,2,0⟩,⟨0,576460752303439872,147573952589676412929⟩,⟨1152921504606846976,2,0⟩,⟨0,1152921504606863360,590295810358705651713⟩,⟨2305843009213693952,0,144115188075855872⟩,⟨4611686018427387904,2305843009213693952,2361183241434822606848⟩,⟨9223372036854775808,4611686018427387904,4722366482869645213696⟩,⟨0,9223372036854792192,9444732965739290427393⟩,⟨18446744073709551616,0,0⟩,⟨0,18446744073709568000,37778931862957161709569⟩,⟨36893488147419103232,0,0⟩,⟨0,36893488147419119616,151115727451828646838273⟩,⟨73786976294838206464,0,0⟩,⟨0,73786976294838222848,604462909807314587353089⟩,⟨147573952589676412928,0,0⟩,⟨0,147573952589676429312,2417851639229258349412353⟩,⟨295147905179352825856,0,0⟩,⟨0,295147905179352842240,9671406556917033397649409⟩,⟨590295810358705651712,4,0⟩,⟨0,590295810358705668096,38685626227668133590597633⟩,⟨1180591620717411303424,4,0⟩,⟨0,1180591620717411319808,154742504910672534362390529⟩,⟨2361183241434822606848,4,0⟩,⟨0,2361183241434822623232,618970019642690137449562113⟩,⟨4722366482869645213696,0,2361183241434822606848⟩,⟨9444732965739290427392,4722366482869645213696,2475880078570760549798248448⟩,⟨18889465931478580854784,9444732965739290427392,4951760157141521099596496896⟩,⟨0,18889465931478580871168,9903520314283042199192993793⟩,⟨37778931862957161709568,0,2475880078570760549798248448⟩,⟨75557863725914323419136,37778931862957161709568,39614081257132168796771975168⟩,⟨151115727451828646838272,0,79228162514264337593543950336⟩,⟨302231454903657293676544,226673591177742970257408,237684487542793012780631851008⟩,⟨604462909807314587353088,302231454903657293676544,316912650057057350374175801344⟩,⟨0,604462909807314587369472,633825300114114700748351602689⟩,⟨1208925819614629174706176,0,158456325028528675187087900672⟩,⟨2417851639229258349412352,0,2535301200456458802993406410752⟩,⟨4835703278458516698824704,2417851639229258349412352,5070602400912917605986812821504⟩,⟨9671406556917033397649408,0,10141204801825835211973625643008⟩,⟨19342813113834066795298816,15716035654990179271180288,32958915605933964438914283339776⟩,⟨38685626227668133590597632,19342813113834066795298816,40564819207303340847894502572032⟩,⟨0,38685626227668133590614016,81129638414606681695789005144065⟩,⟨77371252455336267181195264,4,0⟩,⟨0,77371252455336267181211648,324518553658426726783156020576257⟩,⟨154742504910672534362390528,16384,1298074214633706907132624082305023⟩,⟨1,154742504910672534362390528,2596148429267413814265248164610047⟩]
def abA:List Row × List (Bool × Nat) × oP × List (Bool × Nat):=(Y3,[(true,1),(true,2),(true,3),(true,5),(true,6),(true,7),(true,9),(true,11),(true,13),(true,14),(true,15),(true,17),(true,19),(true,21),(true,22),(true,23),(true,25),(true,26),(true,27),(true,29),(true,30),(true,31),(true,33),(true,35),(true,36),(true,37),(true,39),(true,40),(true,41),(true,43),(true,44),(true,45),(true,47),(true,49),(true,50),(true,51),(true,53),(true,55),(true,57),(true,58),(true,59),(true,61),(true,63),(true,65),(true,67),(true,69),(true,71),(true,72),(true,73),(true,75),(true,77),(true,79),(true,81),(true,83),(true,85),(true,87),(true,89),(true,91),(true,92),(true,93),(true,95),(true,96),(true,97),(true,98),(true,99),(true,101),(true,102),(true,103),(true,104),(true,105),(true,106),(true,108),(false,0)],⟨166,14,.u8,[4,8,10,12,16,18,20,24,28,32,34,38,42,46,48,52,54,56,60,62,64,66,68,70,74,76,78,80,82,84,86,88,90,94,100,107,109]⟩,[(true,110),(true,111)])
noncomputable def V1:jm:=⟨K,W3,pf1,XC sm1,fun _ _ _=>none,fun _=>false,136,fun f r=>cond (Nat.beq f 130 && Nat.beq r 4) (some abA) none⟩
theorem aeZ:r9 V1:=⟨Tf aca,fun _ _ _ _ _ h=>(by cases h),fun _ h=>(by cases h),Hk⟩
theorem CR:Pure K 130 [] p6:=Pure.fP (V:=V1) aeZ 1000 10 js (by kernel_rfl)
end Go.Rip
namespace Go.Rip
open Go.RowKit
theorem QH {α:Type} (f:α->AV × AV) (l:List α):∀ {x:AV × AV} {r:List (AV × AV)},(x,r) ∈ tQ (l.map f)->∃ a l',x=f a/\r=l'.map f/\(a::l').Perm l:=by
 induction l with
 | nil=>intro _ _ h; cases h
 | cons b l ih =>
   intro x r h
   simp only [eh,tQ,cJ,List.mem_map] at h
   rcases h with h | ⟨p,h1,h2⟩
   . cases h; exact ⟨b,l,rfl,rfl,.refl _⟩
   . obtain ⟨a,l',he,hr,hp⟩:=ih (x:=p.1) (r:=p.2) h1
     cases h2
     exact ⟨a,b::l',he,by rw [hr]; rfl,(List.Perm.swap ..).trans (hp.cons b)⟩
theorem EA {C:cS} {o:Nat} {U:St} {α:Type} {f:α->AV × AV} {l:List α} {c:Option (AV × AV)} {k kp:AV->St->Prop} (h:U.iter o=some (l.map f,c))
 (h0:l=[]->k (.aH [.bool false]) U) (h1:∀ a l',(a::l').Perm l->k (.aH [.bool true,(f a).1,(f a).2]) (U.set o (.iter (l'.map f) (some (f a))))):(sL (.it o) U).wp C U k kp:=by
 cases l with
 | nil=>simp only [sL,h,nF]; exact h0 rfl
 | cons b l =>
   simp only [sL,h,eh]
   intro p hp
   obtain ⟨q,hq,rfl⟩:=List.mem_map.1 hp
   obtain ⟨x,r⟩:=q
   obtain ⟨a,l',rfl,rfl,H6⟩:=QH f (b::l) hq
   exact h1 a l' H6
@[simp] theorem iter_set (U:St) (b y:Nat) (r:List (AV × AV)) (c:Option (AV × AV)):(U.set b (.iter r c)).iter y=if y=b then some (r,c) else U.iter y:=by
 simp only [St.iter,St.set]; by_cases h:y=b <;> simp [h]
@[simp] theorem afQ (U:St) (b y:Nat) (r:List (AV × AV)) (c:Option (AV × AV)):(U.new b (.iter r c)).iter y=if y=b then some (r,c) else U.iter y:=by
 simp only [St.iter,St.new]; by_cases h:y=b <;> simp [h]
abbrev Zo:=Int × List (List UInt8 × Int)
def opsL:List Zo:=[(2,[([111,114],17)]),(3,[([97,110,100],18)]),(5,[([60],21),([61],20)]),(6,[([43],22),([45],23)]),(7,[([42],24)]),(8,[([97,115],25)])]
def jE (p:List UInt8 × Int):AV × AV:=(.str p.1,.int .u8 p.2)
def uF (p:Zo):AV × AV:=(.int .i64 p.1,.ga (p.2.map fun q=>(jE q).1) (p.2.map fun q=>(jE q).2))
def opsV:AV:=.ga (opsL.map fun p=>(uF p).1) (opsL.map fun p=>(uF p).2)
def ry (k:Int):Int:=match opsL.find? (fun p=>p.2.any fun q=>q.2 == k) with
 | some p=>p.1
 | none=>if k=9 then 0 else if k=19 then 4 else if 10 <= k/\k <= 16 then 1 else 9
theorem zip_map {α:Type} (f:α->AV × AV) (l:List α):(l.map fun p=>(f p).1).zip (l.map fun p=>(f p).2)=l.map f:=by
 induction l with
 | nil=>rfl
 | cons a l ih=>simp [ih]
theorem Qh:∀ p ∈ opsL,∀ q ∈ p.2,ry q.2=p.1:=by decide
theorem NF {k:Int} (h:∀ p ∈ opsL,∀ q ∈ p.2,q.2 ≠ k):ry k=if k=9 then 0 else if k=19 then 4 else if 10 <= k/\k <= 16 then 1 else 9:=by
 have:opsL.find? (fun p=>p.2.any fun q=>q.2 == k)=none:=by
  rw [List.find?_eq_none]
  intro p hp hq
  simp only [List.any_eq_true,beq_iff_eq] at hq
  obtain ⟨q,hq,e⟩:=hq
  exact h p hp q hq e
 simp only [ry,this]
theorem Nx {U:St} {o q:Nat} {x:List (AV × AV) × Option (AV × AV)} (hq:U.dA q) (h:U.iter o=some x):o ≠ q:=fun e=>by
 subst e
 simp [St.iter,hq.1] at h
theorem Ox (i:Nat):closed (K.zn i)=true:=by
 show closed (if i=0 then .cQ wq else if i=7 then .cQ xe else .any)=true
 split
 . decide +kernel
 . split
   . decide +kernel
   . rfl
theorem ND {L:List AV} (h2:L[2]?=some opsV) (k:Int) (U:St) (R:cY->St->Prop) (hR:∀ ad,R (.ret (.int .i64 (ry k))) ad):ae K 236 [.cQ L,.int .u8 k] U R:=by
 refine SU ?_
 have hL:jf (L.drop 2)=.val opsV:=by
  have:L.drop 2=opsV::L.drop 3:=by
   rw [ib (dC.1 h2).1]
   simp [(dC.1 h2).2]
  rw [this]; rfl
 have hrg:∀ (l:List Zo) fk,uJ (some fk) (.ga (l.map fun p=>(uF p).1) (l.map fun p=>(uF p).2))=.new .it none (.iter (l.map uF) none):=fun l fk=>by rw [<- zip_map]; rfl
 have UE:∀ (l:List (List UInt8 × Int)) fk,uJ (some fk) (.ga (l.map fun p=>(jE p).1) (l.map fun p=>(jE p).2))=.new .it none (.iter (l.map jE) none):=fun l fk=>by rw [<- zip_map]; rfl
 simp only [SS,yZ,aj,dJ,vn,hL,opsV,hrg,kV,NV.at]
 intro o ho
 refine ⟨fun m v1 cz ad=>∃ l done c,v1=.int .u8 k/\cz=.it o/\ad.iter o=some (l.map uF,c)/\m=l.length/\(done++l).Perm opsL/\∀ p ∈ done,∀ q ∈ p.2,q.2 ≠ k,⟨6,opsL,[],none,rfl,rfl,by simp,rfl,.refl _,by simp⟩,?_⟩
 rintro m v1 cz ad ⟨l,done,c,rfl,rfl,hit,rfl,hp,hd⟩
 refine EA hit (fun hl=>?_) (fun a l' H6=>?_)
 . subst hl
   simp only [bD,eD,dF,aj,bp]
   have adW:∀ p ∈ opsL,∀ q ∈ p.2,q.2 ≠ k:=fun p Iy=>hd p (by have:=hp.mem_iff (a:=p); simp at this; exact this.2 Iy)
   have o6:=NF adW
   simp (contextual:=true) [-Int.not_le,-Int.not_lt,DB,BD,ca]
   repeat' (first | refine And.intro ?_ ?_ | intro _)
   all_goals (refine al.eq (hR _) ?_; rw [o6]; simp only [AV.int.injEq,true_and])
   all_goals grind
 . simp only [bD,eD,dF,aj,bG]
   have he:nu (.it o) (ad.set o (.iter (l'.map uF) (some (uF a))))=.val (.aH [(uF a).1,(uF a).2]):=by simp [nu]
   have e2:(uF a).2=.ga (a.2.map fun q=>(jE q).1) (a.2.map fun q=>(jE q).2):=rfl
   simp only [he,aj,bD,eD,List.drop_succ_cons,dF]
   rw [e2,UE]
   simp only [kV,NV.at]
   intro o2 WG
   have cr:o ≠ o2:=Nx (x:=(l'.map uF,some (uF a))) WG (by simp)
   refine ⟨fun m v1 v5 cz v20 ad=>∃ l2 kB c2 c,v1=.int .u8 k/\v5=.int .i64 a.1/\cz=.it o/\v20=.it o2/\ad.iter o2=some (l2.map jE,c2)/\ad.iter o=some (l'.map uF,c)/\m=l2.length/\(kB++l2).Perm a.2/\∀ q ∈ kB,q.2 ≠ k,⟨a.2.length,a.2,[],none,some (uF a),rfl,rfl,rfl,rfl,by simp,by simp [cr],rfl,.refl _,by simp⟩,?_⟩
   rintro m v1 v5 cz v20 bh ⟨l2,kB,c2,c3,rfl,rfl,rfl,rfl,afn,abn,rfl,wO,rp⟩
   refine EA afn (fun hl=>?_) (fun b l3 Bh=>?_)
   . subst hl
     simp only [bD,eD,dF,aj,bp]
     have hlen:l'.length < l.length:=by rw [<- H6.length_eq]; simp
     refine ⟨l'.length,hlen,l',done++[a],c3,rfl,rfl,abn,rfl,?_,?_⟩
     . rw [gi]
       exact (List.Perm.append_left done H6).trans hp
     . intro p Iy q hq
       rcases gu.1 Iy with h | h
       . exact hd p h q hq
       . simp only [jX] at h
         subst h
         exact rp q (by have:=wO.mem_iff (a:=q); simp at this; exact this.2 hq)
   . have he2:nu (.it o2) (bh.set o2 (.iter (l3.map jE) (some (jE b))))=.val (.aH [(jE b).1,(jE b).2]):=by simp [nu]
     simp only [bD,eD,dF,aj,bG]
     rw [he2]
     simp only [bD,eD,dF,aj,List.drop_succ_cons,jE,bu,ca]
     have hb:b ∈ a.2:=wO.mem_iff.1 (List.mem_append_right _ (Bh.mem_iff.1 (by simp)))
     have ha:a ∈ opsL:=hp.mem_iff.1 (List.mem_append_right _ (H6.mem_iff.1 (by simp)))
     refine ⟨fun hk=>?_,fun hk=>?_⟩
     . refine al.eq (hR _) ?_
       rw [<- hk,Qh a ha b hb]
     . have hlen:l3.length < l2.length:=by rw [<- Bh.length_eq]; simp
       refine ⟨l3.length,hlen,l3,kB++[b],some (jE b),c3,rfl,rfl,rfl,rfl,by simp [jE],by simp [cr,abn],rfl,?_,?_⟩
       . rw [gi]
         exact (List.Perm.append_left kB Bh).trans wO
       . intro q hq
         rcases gu.1 hq with h | h
         . exact rp q h
         . simp only [jX] at h
           subst h; exact hk
theorem NG {L:List AV} (h2:L[2]?=some opsV) (hc:cT L=true) (k:Int):Pure K 236 [.cQ L,.int .u8 k] (.int .i64 (ry k)) :=
 Pure.AN Ox (by simp [cT,closed,hc]) rfl 1 (ND h2 k _ _ fun ad=>⟨_,rfl,rfl⟩)
theorem vQ:∀ (l:List AV),cT (l.map fun _=>AV.any)=true
 | []=>rfl
 | x::l=>by simp [cT,closed,vQ l]
theorem zG {b:Nat} {x y:AV} {l:List AV} {k:Int} {U:St} {R:cY->St->Prop} (hb:U.box b=some (x::y::opsV::l)) (hR:R (.ret (.int .i64 (ry k))) U):ae K 236 [.box b 0,.int .u8 k] U R:=by
 refine ae.Y1 5 Ox (args0:=[.cQ (.any::.any::opsV::l.map fun _=>.any),.int .u8 k]) (fun g vs h=>?_) ?_ rfl (NG rfl ?_ k) hR
 . have e:([.box b 0,.int .u8 k]:List AV).map (resolve 5 U)=[.cQ (resolve 4 U x::resolve 4 U y::opsV::l.map (resolve 4 U)),.int .u8 k]:=by
    simp only [eh,nF,resolve,hb,eD]
    rfl
   rw [e] at h
   refine Wk.cQ (.drop _ (.drop _ (.bg _ ?_))) h
   have:=Wk.any (l.map (resolve 4 U))
   rw [List.map_map] at this; exact this
 . simp only [cT,closed,vQ,Bool.and_true,Bool.true_and]; decide +kernel
 . simp only [cT,closed,vQ,Bool.and_true,Bool.true_and]; decide +kernel
end Go.Rip
namespace Go.Rip
open Go.RowKit
def Oc (f:Nat) (args:List AV) (e:ES):Option (AV × ES):=match args with
 | [.box b 0,.int .u8 k]=>cond (Nat.beq f 236) (match (bV e).box b with | some (_::_::m::_)=>cond (jT m opsV) (some (.int .i64 (ry k),e)) none | _=>none) none
 | _=>VE f args e
theorem lr {α:Type} {b:Bool} {x:Option α} {y:α} (h:cond b x none=some y):b=true/\x=some y:=by
 cases b with
 | true=>exact ⟨rfl,h⟩
 | false=>cases h
theorem VF:∀ f args x,Od f args=some x->Pure K f args x:=by
 intro f args x h
 unfold Od at h
 split at h
 . obtain ⟨h1,h2⟩:=lr h
   simp only [bS,ee] at h1
   obtain ⟨h3,h4,h5⟩:=h1
   have:=fp h3
   subst this
   cases h2
   rename_i s c
   have e:=wU s c
   rw [tm] at e
   have e2:(c.toNat.toUInt8).toNat=c.toNat:=by simp [Nat.toUInt8]; omega
   rw [e2] at e; exact e
 . obtain ⟨h1,h2⟩:=lr h
   have:=fp h1
   subst this
   cases h2
   rename_i s c
   have e:=wV s c
   rw [tm] at e; exact e
 . obtain ⟨h1,h2⟩:=lr h
   simp only [bS,ee] at h1
   obtain ⟨h3,h4,h5⟩:=h1
   have:=fp h3
   subst this
   cases h2
   rename_i n
   have e:=FN n (by omega) (by omega)
   have e2:Lib.itoa n=HI 8 n.toNat:=by
    rw [K8 7 n.toNat (by omega)]
    unfold Lib.itoa
    rw [if_neg (by omega)]
   rw [e2] at e; exact e
 . cases h
theorem Y7:∀ f args e x e',VE f args e=some (x,e')->∀ R,R (.ret x) (bV e')->ae K f args (bV e) R:=by
 intro f args e x e' h R hR
 unfold VE at h
 split at h
 . rename_i b
   cases h1:Nat.beq f 190 with
   | true =>
     have:=fp h1
     subst this
     rw [h1,cond_true] at h
     split at h
     . rename_i t y hb
       obtain ⟨h2,h3⟩:=lr h
       have:=fp h2
       subst this
       cases h3
       refine u1 (y:=y) hb ?_
       rw [oq] at hR; exact hR
     . rename_i b' rest hb
       obtain ⟨h2,h3⟩:=lr h
       have:=fp h2
       subst this
       cases h3
       exact sc (rest:=rest) (by show (match (bV e).live b' with | some (.box l)=>some l | some (.tG _ l)=>some l | _=>none)=_; rw [show (bV e).live b'=e.live.get b' from rfl,hb]) hR
     . cases h
   | false =>
     rw [h1,cond_false] at h
     obtain ⟨h2,h3⟩:=lr h
     have:=fp h2
     subst this
     split at h3
     . rename_i a n τ l hb
       split at h3
       . rename_i c bs m CW ht
         obtain ⟨h4,h5⟩:=lr h3
         simp only [bS] at h4
         have e1:=fp h4.1
         have e2:=fp h4.2
         subst e1
         cases h5
         have e3:=CJ CW
         refine wv (a:=a) (l:=c::bs) (τ:=τ) (by simp) (by rw [hb,e3,e2]; rfl) (by rw [ht,e2]; rfl) ?_
         rw [Cs] at hR; exact hR
       . cases h3
     . rename_i a hb
       cases h3
       exact sS (a:=a) hb hR
     . cases h3
 . cases h
theorem Mg:∀ f args e x e',Oc f args e=some (x,e')->∀ R,R (.ret x) (bV e')->ae K f args (bV e) R:=by
 intro f args e x e' h R hR
 unfold Oc at h
 split at h
 . obtain ⟨h1,h2⟩:=lr h
   have:=fp h1
   subst this
   split at h2
   . rename_i m l hb
     obtain ⟨h3,h4⟩:=lr h2
     have:=wy h3
     subst this
     cases h4
     exact zG hb hR
   . cases h2
 . exact Y7 f args e x e' h R hR
def smV (f:Nat) (args:List AV):Option AV:=match args with
 | []=>cond (Nat.beq f 153) (some D3) (cond (Nat.beq f 96) (some zR) (cond (Nat.beq f 97) (some se) (cond (Nat.beq f 130) (some p6) none)))
 | _=>Od f args
theorem acd:∀ f args x,smV f args=some x->Pure K f args x:=by
 intro f args x h
 unfold smV at h
 split at h
 . cases h1:Nat.beq f 153 with
   | true=>rw [h1] at h; have:=fp h1; subst this; cases h; exact D5
   | false =>
     rw [h1,cond_false] at h
     cases h1:Nat.beq f 96 with
     | true=>rw [h1] at h; have:=fp h1; subst this; cases h; exact Cf
     | false =>
       rw [h1,cond_false] at h
       cases h1:Nat.beq f 97 with
       | true=>rw [h1] at h; have:=fp h1; subst this; cases h; exact Bc
       | false =>
         rw [h1,cond_false] at h
         obtain ⟨h1,h2⟩:=lr h
         have:=fp h1; subst this; cases h2; exact CR
 . exact VF f args x h
def pfV (f:Nat):Bool:=Nat.beq f 153 || (Nat.beq f 96 || (Nat.beq f 97 || (Nat.beq f 130 || (Nat.beq f 214 || (Nat.beq f 243 || Nat.beq f 257)))))
noncomputable def V2:jm:=⟨K,W3,pfV,smV,Oc,fun f=>Nat.beq f 54,136,fun _ _=>none⟩
theorem Ms:r9 V2:=⟨acd,Mg,fun f h=>by have:=fp h; subst this; exact Cw,Hk⟩
end Go.Rip
