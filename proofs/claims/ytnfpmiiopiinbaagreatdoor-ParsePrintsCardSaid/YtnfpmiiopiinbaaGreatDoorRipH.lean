/- Lemmas for the proof: no conditions. -/
import Derived.Test.YtnfpmiiopiinbaaGreatDoorRipZz
import Derived.Test.YtnfpmiiopiinbaaGreatDoorRipE
import Derived.Test.YtnfpmiiopiinbaaGreatDoorRipD
import Derived.Test.YtnfpmiiopiinbaaGreatDoorRipB
import Derived.Test.YtnfpmiiopiinbaaGreatDoorRipG
import Derived.Test.YtnfpmiiopiinbaaGreatDoorRipC
set_option linter.unusedVariables false
set_option linter.unusedSimpArgs false
set_option linter.loopingSimpArgs false
set_option maxRecDepth 100000
namespace Go.Rip
open Go.Proofs
def VO (l:List (Nat × List AV × AV)) (f:Nat) (args:List AV):Option AV:=match l.find? (fun x=>Nat.beq x.1 f && oW x.2.1 args) with
 | some x=>some x.2.2
 | none=>none
theorem RL {l:List (Nat × List AV × AV)} (h:∀ x ∈ l,Pure K x.1 x.2.1 x.2.2) (f:Nat) (args:List AV) (x:AV) (hx:VO l f args=some x):Pure K f args x:=by
 unfold VO at hx
 split at hx
 . rename_i y hy
   cases hx
   have h1:=List.find?_some hy
   simp only [bX] at h1
   have e1:=eQ h1.1
   have e2:=kh h1.2
   have:=h y (List.mem_of_find?_eq_some hy)
   rw [e1,e2] at this
   exact this
 . cases hx
theorem iR:∀ i,closed (K.yT i)=true:=fun i=>by
 show closed (if i=0 then .cU vw else if i=7 then .cU wg else .any)=true
 split
 . decide +kernel
 . split
   . decide +kernel
   . rfl
def Vc (f:Nat):List Nat:=cond (Nat.beq f 110 || (Nat.beq f 69 || Nat.beq f 157)) (List.range 100) []
noncomputable def V0:iO:=⟨K,Vc,fun _=>false,fun _ _=>none,fun _ _ _=>none,fun _=>false,136,fun _ _=>none⟩
theorem nZ:qJ V0:=⟨fun _ _ _ h=>(by cases h),fun _ _ _ _ _ h=>(by cases h),fun _ h=>(by cases h),Gj⟩
def Dv:AV:=.gb [.str [97,110,100],.str [97,115],.str [98,111,111,108],.str [99,101,108,108],.str [99,104,111,111,115,101],.str [99,111,109],.str [100,101,102],.str [100,111],.str [101,108,115,101],.str [101,120,112,111,114,116],.str [102,97,108,115,101],.str [102,110],.str [103,101,116],.str [104,97,110,103],.str [105,102],.str [105,109,112,111,114,116],.str [105,110],.str [105,110,116],.str [106,117,109,112],.str [108,97,98,101,108],.str [110,101,119],.str [110,111,116],.str [110,111,116,105,99,101],.str [111,102],.str [111,114],.str [112,117,116],.str [115,107,105,112],.str [116,104,101,110],.str [116,114,117,101],.str [119,104,105,108,101]] [.bool true,.bool true,.bool true,.bool true,.bool true,.bool true,.bool true,.bool true,.bool true,.bool true,.bool true,.bool true,.bool true,.bool true,.bool true,.bool true,.bool true,.bool true,.bool true,.bool true,.bool true,.bool true,.bool true,.bool true,.bool true,.bool true,.bool true,.bool true,.bool true,.bool true]
def L5:AV:=.gb [.int .i64 2,.int .i64 3,.int .i64 5,.int .i64 6,.int .i64 7,.int .i64 8] [.gb [.str [111,114]] [.int .u8 17],.gb [.str [97,110,100]] [.int .u8 18],.gb [.str [60],.str [61]] [.int .u8 21,.int .u8 20],.gb [.str [43],.str [45]] [.int .u8 22,.int .u8 23],.gb [.str [42]] [.int .u8 24],.gb [.str [97,115]] [.int .u8 25]]
def DJ:AV:=.gb [.str [99,104,111,111,115,101],.str [105,102],.str [108,97,98,101,108],.str [110,101,119],.str [110,111,116,105,99,101],.str [119,104,105,108,101]] [.func (.func 162) [] [],.func (.func 158) [] [],.func (.func 161) [] [],.func (.func 160) [] [],.func (.func 163) [] [],.func (.func 159) [] []]
def pb:AV:=.gb [.int .u8 1,.int .u8 2,.int .u8 3,.int .u8 4,.int .u8 5,.int .u8 6,.int .u8 7,.int .u8 8,.int .u8 9,.int .u8 10,.int .u8 11,.int .u8 12,.int .u8 13,.int .u8 14,.int .u8 15,.int .u8 16,.int .u8 17,.int .u8 18,.int .u8 19,.int .u8 20,.int .u8 21,.int .u8 22,.int .u8 23,.int .u8 24,.int .u8 25,.int .u8 26,.int .u8 27,.int .u8 28,.int .u8 29,.int .u8 30,.int .u8 31,.int .u8 32,.int .u8 33,.int .u8 34,.int .u8 35,.int .u8 36,.int .u8 37] [.agg [.bool false,.bool false,.bool false,.vec 1 .full [.func (.func 179) [] [],.int .i64 0,.int .i64 900]],.agg [.bool true,.bool false,.bool false,.vec 1 .full [.func (.func 181) [] [],.int .i64 1,.int .i64 1]],.agg [.bool true,.bool false,.bool false,.vec 3 .full [.func (.func 242) [] [.cU [.int .u8 5]],.int .i64 0,.int .i64 900,.func (.func 206) [] [],.int .i64 1,.int .i64 1,.func (.func 185) [] [],.int .i64 1,.int .i64 1]],.agg [.bool true,.bool false,.bool false,.vec 3 .full [.func (.func 242) [] [.cU [.int .u8 5]],.int .i64 0,.int .i64 900,.func (.func 206) [] [],.int .i64 1,.int .i64 1,.func (.func 185) [] [],.int .i64 1,.int .i64 1]],.agg [.bool true,.bool false,.bool false,.vec 1 .full [.func (.func 181) [] [],.int .i64 1,.int .i64 1]],.agg [.bool false,.bool true,.bool false,.aA],.agg [.bool false,.bool true,.bool false,.aA],.agg [.bool false,.bool false,.bool false,.vec 1 .full [.func (.func 206) [] [],.int .i64 2,.int .i64 900]],.agg [.bool false,.bool false,.bool false,.vec 1 .full [.func (.func 185) [] [],.int .i64 2,.int .i64 900]],.agg [.bool false,.bool false,.bool false,.vec 1 .full [.func (.func 185) [] [],.int .i64 3,.int .i64 3]],.agg [.bool false,.bool false,.bool false,.vec 1 .full [.func (.func 185) [] [],.int .i64 2,.int .i64 2]],.agg [.bool true,.bool true,.bool true,.vec 1 .full [.func (.func 185) [] [],.int .i64 1,.int .i64 1]],.agg [.bool true,.bool false,.bool false,.vec 1 .full [.func (.func 185) [] [],.int .i64 2,.int .i64 2]],.agg [.bool true,.bool true,.bool false,.vec 1 .full [.func (.func 185) [] [],.int .i64 1,.int .i64 1]],.agg [.bool false,.bool false,.bool false,.vec 1 .full [.func (.func 185) [] [],.int .i64 2,.int .i64 2]],.agg [.bool true,.bool false,.bool false,.vec 1 .full [.func (.func 185) [] [],.int .i64 1,.int .i64 1]],.agg [.bool false,.bool false,.bool false,.vec 1 .full [.func (.func 185) [] [],.int .i64 2,.int .i64 2]],.agg [.bool false,.bool false,.bool false,.vec 1 .full [.func (.func 185) [] [],.int .i64 2,.int .i64 2]],.agg [.bool false,.bool false,.bool false,.vec 1 .full [.func (.func 185) [] [],.int .i64 1,.int .i64 1]],.agg [.bool false,.bool false,.bool false,.vec 1 .full [.func (.func 185) [] [],.int .i64 2,.int .i64 2]],.agg [.bool false,.bool false,.bool false,.vec 1 .full [.func (.func 185) [] [],.int .i64 2,.int .i64 2]],.agg [.bool false,.bool false,.bool false,.vec 1 .full [.func (.func 185) [] [],.int .i64 2,.int .i64 2]],.agg [.bool false,.bool false,.bool false,.vec 1 .full [.func (.func 185) [] [],.int .i64 2,.int .i64 2]],.agg [.bool false,.bool false,.bool false,.vec 1 .full [.func (.func 185) [] [],.int .i64 2,.int .i64 2]],.agg [.bool false,.bool true,.bool false,.vec 1 .full [.func (.func 185) [] [],.int .i64 1,.int .i64 1]],.agg [.bool false,.bool true,.bool false,.aA],.agg [.bool false,.bool false,.bool false,.aA],.agg [.bool false,.bool false,.bool false,.aA],.agg [.bool false,.bool false,.bool false,.aA],.agg [.bool false,.bool false,.bool false,.aA],.agg [.bool true,.bool false,.bool false,.aA],.agg [.bool true,.bool false,.bool false,.aA],.agg [.bool true,.bool false,.bool false,.aA],.agg [.bool true,.bool false,.bool false,.vec 1 .full [.func (.func 207) [] [],.int .i64 1,.int .i64 900]],.agg [.bool false,.bool false,.bool false,.vec 2 .full [.func (.func 242) [] [.cU [.int .u8 37]],.int .i64 1,.int .i64 900,.func (.func 185) [] [],.int .i64 1,.int .i64 1]],.agg [.bool false,.bool false,.bool false,.vec 3 .full [.func (.func 185) [] [],.int .i64 1,.int .i64 1,.func (.func 242) [] [.cU [.int .u8 37]],.int .i64 1,.int .i64 1,.func (.func 185) [] [],.int .i64 1,.int .i64 1]],.agg [.bool true,.bool false,.bool false,.aA]]
theorem Dw:Pure K 153 [] Dv:=Pure.fB (V:=V0) nZ 1000 10 iR (by kernel_rfl)
theorem HU:Pure K 96 [] L5:=Pure.fB (V:=V0) nZ 1000 10 iR (by kernel_rfl)
theorem Jc:Pure K 97 [] DJ:=Pure.fB (V:=V0) nZ 1000 10 iR (by kernel_rfl)
def jr (n:Nat):AV:=.func (.func n) [] []
def oZ (n:Int):AV:=.func (.func 242) [] [.cU [.int .u8 n]]
theorem so0:Pure K 202 [.int .i64 2,jr 185] (.agg [jr 185,.int .i64 2,.int .i64 2]):=Pure.fB (V:=V0) nZ 1000 10 iR (by kernel_rfl)
theorem so1:Pure K 202 [.int .i64 3,jr 185] (.agg [jr 185,.int .i64 3,.int .i64 3]):=Pure.fB (V:=V0) nZ 1000 10 iR (by kernel_rfl)
theorem so2:Pure K 203 [.int .i64 0,jr 179] (.agg [jr 179,.int .i64 0,.int .i64 900]):=Pure.fB (V:=V0) nZ 1000 10 iR (by kernel_rfl)
theorem so3:Pure K 203 [.int .i64 2,jr 206] (.agg [jr 206,.int .i64 2,.int .i64 900]):=Pure.fB (V:=V0) nZ 1000 10 iR (by kernel_rfl)
theorem so4:Pure K 203 [.int .i64 2,jr 185] (.agg [jr 185,.int .i64 2,.int .i64 900]):=Pure.fB (V:=V0) nZ 1000 10 iR (by kernel_rfl)
theorem so5:Pure K 203 [.int .i64 1,jr 207] (.agg [jr 207,.int .i64 1,.int .i64 900]):=Pure.fB (V:=V0) nZ 1000 10 iR (by kernel_rfl)
theorem so6:Pure K 203 [.int .i64 1,oZ 37] (.agg [oZ 37,.int .i64 1,.int .i64 900]):=Pure.fB (V:=V0) nZ 1000 10 iR (by kernel_rfl)
theorem so7:Pure K 203 [.int .i64 0,oZ 5] (.agg [oZ 5,.int .i64 0,.int .i64 900]):=Pure.fB (V:=V0) nZ 1000 10 iR (by kernel_rfl)
theorem so8:Pure K 205 [jr 181] (.agg [jr 181,.int .i64 1,.int .i64 1]):=Pure.fB (V:=V0) nZ 1000 10 iR (by kernel_rfl)
theorem so9:Pure K 205 [jr 185] (.agg [jr 185,.int .i64 1,.int .i64 1]):=Pure.fB (V:=V0) nZ 1000 10 iR (by kernel_rfl)
theorem afc:Pure K 205 [jr 206] (.agg [jr 206,.int .i64 1,.int .i64 1]):=Pure.fB (V:=V0) nZ 1000 10 iR (by kernel_rfl)
theorem afd:Pure K 205 [oZ 37] (.agg [oZ 37,.int .i64 1,.int .i64 1]):=Pure.fB (V:=V0) nZ 1000 10 iR (by kernel_rfl)
theorem afe:Pure K 204 [.int .u8 5] (oZ 5):=Pure.fB (V:=V0) nZ 1000 10 iR (by kernel_rfl)
theorem aff:Pure K 204 [.int .u8 37] (oZ 37):=Pure.fB (V:=V0) nZ 1000 10 iR (by kernel_rfl)
def sm1:List (Nat × List AV × AV):=[(202,[.int .i64 2,jr 185],.agg [jr 185,.int .i64 2,.int .i64 2]),
 (202,[.int .i64 3,jr 185],.agg [jr 185,.int .i64 3,.int .i64 3]),
 (203,[.int .i64 0,jr 179],.agg [jr 179,.int .i64 0,.int .i64 900]),
 (203,[.int .i64 2,jr 206],.agg [jr 206,.int .i64 2,.int .i64 900]),
 (203,[.int .i64 2,jr 185],.agg [jr 185,.int .i64 2,.int .i64 900]),
 (203,[.int .i64 1,jr 207],.agg [jr 207,.int .i64 1,.int .i64 900]),
 (203,[.int .i64 1,oZ 37],.agg [oZ 37,.int .i64 1,.int .i64 900]),
 (203,[.int .i64 0,oZ 5],.agg [oZ 5,.int .i64 0,.int .i64 900]),
 (205,[jr 181],.agg [jr 181,.int .i64 1,.int .i64 1]),
 (205,[jr 185],.agg [jr 185,.int .i64 1,.int .i64 1]),
 (205,[jr 206],.agg [jr 206,.int .i64 1,.int .i64 1]),
 (205,[oZ 37],.agg [oZ 37,.int .i64 1,.int .i64 1]),
 (204,[.int .u8 5],oZ 5),
 (204,[.int .u8 37],oZ 37)]
theorem aaS:∀ x ∈ sm1,Pure K x.1 x.2.1 x.2.2:=by
 intro x hx
 simp only [sm1,cF,List.not_mem_nil,or_false] at hx
 rcases hx with rfl | rfl | rfl | rfl | rfl | rfl | rfl | rfl | rfl | rfl | rfl | rfl | rfl | rfl
 . exact so0
 . exact so1
 . exact so2
 . exact so3
 . exact so4
 . exact so5
 . exact so6
 . exact so7
 . exact so8
 . exact so9
 . exact afc
 . exact afd
 . exact afe
 . exact aff
def pf1 (f:Nat):Bool:=Nat.beq f 202 || (Nat.beq f 203 || (Nat.beq f 204 || Nat.beq f 205))
def W4:List Row:=[⟨16384,0,0⟩,⟨32768,0,0⟩,⟨65536,32768,2⟩,⟨131072,65536,4⟩,⟨0,147456,9⟩,⟨262144,0,2⟩,⟨524288,262144,32⟩,⟨1048576,524288,64⟩,⟨0,1064960,129⟩,⟨2097152,8,0⟩,⟨0,2113536,513⟩,⟨4194304,8,0⟩,⟨0,4210688,2049⟩,⟨8388608,0,32⟩,⟨16777216,8388608,8192⟩,⟨33554432,16777216,16384⟩,⟨0,33570816,32769⟩,⟨67108864,0,0⟩,⟨0,67125248,131073⟩,⟨134217728,0,0⟩,⟨0,134234112,524289⟩,⟨268435456,0,8192⟩,⟨536870912,268435456,2097152⟩,⟨1073741824,536870912,4194304⟩,⟨0,1073758208,8388609⟩,⟨2147483648,0,2097152⟩,⟨4294967296,2147483648,33554432⟩,⟨8589934592,4294967296,67108864⟩,⟨0,8589950976,134217729⟩,⟨17179869184,0,33554432⟩,⟨34359738368,17179869184,536870912⟩,⟨68719476736,34359738368,1073741824⟩,⟨0,68719493120,2147483649⟩,⟨137438953472,2,0⟩,⟨0,137438969856,8589934593⟩,⟨274877906944,0,536870912⟩,⟨549755813888,274877906944,34359738368⟩,⟨1099511627776,549755813888,68719476736⟩,⟨0,1099511644160,137438953473⟩,⟨2199023255552,2,0⟩,⟨4398046511104,2199023255552,549755813888⟩,⟨8796093022208,4398046511104,1099511627776⟩,⟨0,8796093038592,2199023255553⟩,⟨17592186044416,0,34359738368⟩,⟨35184372088832,17592186044416,8796093022208⟩,⟨70368744177664,35184372088832,17592186044416⟩,⟨0,70368744194048,35184372088833⟩,⟨140737488355328,2,0⟩,⟨0,140737488371712,140737488355329⟩,⟨281474976710656,0,8796093022208⟩,⟨562949953421312,281474976710656,562949953421312⟩,⟨1125899906842624,562949953421312,1125899906842624⟩,⟨0,1125899906859008,2251799813685249⟩,⟨2251799813685248,2,0⟩,⟨0,2251799813701632,9007199254740993⟩,⟨4503599627370496,2,0⟩,⟨0,4503599627386880,36028797018963969⟩,⟨9007199254740992,0,562949953421312⟩,⟨18014398509481984,9007199254740992,144115188075855872⟩,⟨36028797018963968,18014398509481984,288230376151711744⟩,⟨0,36028797018980352,576460752303423489⟩,⟨72057594037927936,2,0⟩,⟨0,72057594037944320,2305843009213693953⟩,⟨144115188075855872,2,0⟩,⟨0,144115188075872256,9223372036854775809⟩,⟨288230376151711744,2,0⟩,⟨0,288230376151728128,36893488147419103233⟩,⟨576460752303423488,2,0⟩,⟨0,576460752303439872,147573952589676412929⟩,⟨1152921504606846976,2,0⟩,⟨0,1152921504606863360,590295810358705651713⟩,⟨2305843009213693952,0,144115188075855872⟩,⟨4611686018427387904,2305843009213693952,2361183241434822606848⟩,⟨9223372036854775808,4611686018427387904,4722366482869645213696⟩,⟨0,9223372036854792192,9444732965739290427393⟩,⟨18446744073709551616,0,0⟩,⟨0,18446744073709568000,37778931862957161709569⟩,⟨36893488147419103232,0,0⟩,⟨0,36893488147419119616,151115727451828646838273⟩,⟨73786976294838206464,0,0⟩,⟨0,73786976294838222848,604462909807314587353089⟩,⟨147573952589676412928,0,0⟩,⟨0,147573952589676429312,2417851639229258349412353⟩,⟨295147905179352825856,0,0⟩,⟨0,295147905179352842240,9671406556917033397649409⟩,⟨590295810358705651712,4,0⟩,⟨0,590295810358705668096,38685626227668133590597633⟩,⟨1180591620717411303424,4,0⟩,⟨0,1180591620717411319808,154742504910672534362390529⟩,⟨2361183241434822606848,4,0⟩,⟨0,2361183241434822623232,618970019642690137449562113⟩,⟨4722366482869645213696,0,2361183241434822606848⟩,⟨9444732965739290427392,4722366482869645213696,2475880078570760549798248448⟩,⟨18889465931478580854784,9444732965739290427392,4951760157141521099596496896⟩,⟨0,18889465931478580871168,9903520314283042199192993793⟩,⟨37778931862957161709568,0,2475880078570760549798248448⟩,⟨75557863725914323419136,37778931862957161709568,39614081257132168796771975168⟩,⟨151115727451828646838272,0,79228162514264337593543950336⟩,⟨302231454903657293676544,226673591177742970257408,237684487542793012780631851008⟩,⟨604462909807314587353088,302231454903657293676544,316912650057057350374175801344⟩,⟨0,604462909807314587369472,633825300114114700748351602689⟩,⟨1208925819614629174706176,0,158456325028528675187087900672⟩,⟨2417851639229258349412352,0,2535301200456458802993406410752⟩,⟨4835703278458516698824704,2417851639229258349412352,5070602400912917605986812821504⟩,⟨9671406556917033397649408,0,10141204801825835211973625643008⟩,⟨19342813113834066795298816,15716035654990179271180288,32958915605933964438914283339776⟩,⟨38685626227668133590597632,19342813113834066795298816,40564819207303340847894502572032⟩,⟨0,38685626227668133590614016,81129638414606681695789005144065⟩,⟨77371252455336267181195264,4,0⟩,⟨0,77371252455336267181211648,324518553658426726783156020576257⟩,⟨154742504910672534362390528,16384,1298074214633706907132624082305023⟩,⟨1,154742504910672534362390528,2596148429267413814265248164610047⟩]
def aai:List Row × List (Bool × Nat) × nI × List (Bool × Nat):=(W4,[(true,1),(true,2),(true,3),(true,5),(true,6),(true,7),(true,9),(true,11),(true,13),(true,14),(true,15),(true,17),(true,19),(true,21),(true,22),(true,23),(true,25),(true,26),(true,27),(true,29),(true,30),(true,31),(true,33),(true,35),(true,36),(true,37),(true,39),(true,40),(true,41),(true,43),(true,44),(true,45),(true,47),(true,49),(true,50),(true,51),(true,53),(true,55),(true,57),(true,58),(true,59),(true,61),(true,63),(true,65),(true,67),(true,69),(true,71),(true,72),(true,73),(true,75),(true,77),(true,79),(true,81),(true,83),(true,85),(true,87),(true,89),(true,91),(true,92),(true,93),(true,95),(true,96),(true,97),(true,98),(true,99),(true,101),(true,102),(true,103),(true,104),(true,105),(true,106),(true,108),(false,0)],⟨166,14,.u8,[4,8,10,12,16,18,20,24,28,32,34,38,42,46,48,52,54,56,60,62,64,66,68,70,74,76,78,80,82,84,86,88,90,94,100,107,109]⟩,[(true,110),(true,111)])
noncomputable def V1:iO:=⟨K,Vc,pf1,VO sm1,fun _ _ _=>none,fun _=>false,136,fun f r=>cond (Nat.beq f 130 && Nat.beq r 4) (some aai) none⟩
theorem adW:qJ V1:=⟨RL aaS,fun _ _ _ _ _ h=>(by cases h),fun _ h=>(by cases h),Gj⟩
theorem Cm:Pure K 130 [] pb:=Pure.fB (V:=V1) adW 1000 10 iR (by kernel_rfl)
end Go.Rip
namespace Go.Rip
open Go.RowKit
theorem OL {α:Type} (f:α->AV × AV) (l:List α):∀ {x:AV × AV} {r:List (AV × AV)},(x,r) ∈ sV (l.map f)->∃ a l',x=f a/\r=l'.map f/\(a::l').Perm l:=by
 induction l with
 | nil=>intro _ _ h; cases h
 | cons b l ih =>
   intro x r h
   simp only [dV,sV,cF,List.mem_map] at h
   rcases h with h | ⟨p,h1,h2⟩
   . cases h; exact ⟨b,l,rfl,rfl,.refl _⟩
   . obtain ⟨a,l',he,hr,hp⟩:=ih (x:=p.1) (r:=p.2) h1
     cases h2
     exact ⟨a,b::l',he,by rw [hr]; rfl,(List.Perm.swap ..).trans (hp.cons b)⟩
theorem DR {C:cT} {o:Nat} {U:St} {α:Type} {f:α->AV × AV} {l:List α} {c:Option (AV × AV)} {k kp:AV->St->Prop} (h:U.iter o=some (l.map f,c))
 (h0:l=[]->k (.aG [.bool false]) U) (h1:∀ a l',(a::l').Perm l->k (.aG [.bool true,(f a).1,(f a).2]) (U.set o (.iter (l'.map f) (some (f a))))):(ry (.it o) U).wp C U k kp:=by
 cases l with
 | nil=>simp only [ry,h,jU]; exact h0 rfl
 | cons b l =>
   simp only [ry,h,dV]
   intro p hp
   obtain ⟨q,hq,rfl⟩:=List.mem_map.1 hp
   obtain ⟨x,r⟩:=q
   obtain ⟨a,l',rfl,rfl,Ew⟩:=OL f (b::l) hq
   exact h1 a l' Ew
@[simp] theorem iter_set (U:St) (b y:Nat) (r:List (AV × AV)) (c:Option (AV × AV)):(U.set b (.iter r c)).iter y=if y=b then some (r,c) else U.iter y:=by
 simp only [St.iter,St.set]; by_cases h:y=b <;> simp [h]
@[simp] theorem aeR (U:St) (b y:Nat) (r:List (AV × AV)) (c:Option (AV × AV)):(U.new b (.iter r c)).iter y=if y=b then some (r,c) else U.iter y:=by
 simp only [St.iter,St.new]; by_cases h:y=b <;> simp [h]
abbrev Xu:=Int × List (List UInt8 × Int)
def opsL:List Xu:=[(2,[([111,114],17)]),(3,[([97,110,100],18)]),(5,[([60],21),([61],20)]),(6,[([43],22),([45],23)]),(7,[([42],24)]),(8,[([97,115],25)])]
def jd (p:List UInt8 × Int):AV × AV:=(.str p.1,.int .u8 p.2)
def tO (p:Xu):AV × AV:=(.int .i64 p.1,.gb (p.2.map fun q=>(jd q).1) (p.2.map fun q=>(jd q).2))
def opsV:AV:=.gb (opsL.map fun p=>(tO p).1) (opsL.map fun p=>(tO p).2)
def qm (k:Int):Int:=match opsL.find? (fun p=>p.2.any fun q=>q.2 == k) with
 | some p=>p.1
 | none=>if k=9 then 0 else if k=19 then 4 else if 10 <= k/\k <= 16 then 1 else 9
theorem zip_map {α:Type} (f:α->AV × AV) (l:List α):(l.map fun p=>(f p).1).zip (l.map fun p=>(f p).2)=l.map f:=by
 induction l with
 | nil=>rfl
 | cons a l ih=>simp [ih]
theorem On:∀ p ∈ opsL,∀ q ∈ p.2,qm q.2=p.1:=by decide
theorem LL {k:Int} (h:∀ p ∈ opsL,∀ q ∈ p.2,q.2 ≠ k):qm k=if k=9 then 0 else if k=19 then 4 else if 10 <= k/\k <= 16 then 1 else 9:=by
 have:opsL.find? (fun p=>p.2.any fun q=>q.2 == k)=none:=by
  rw [List.find?_eq_none]
  intro p hp hq
  simp only [List.any_eq_true,beq_iff_eq] at hq
  obtain ⟨q,hq,e⟩:=hq
  exact h p hp q hq e
 simp only [qm,this]
theorem LF {U:St} {o q:Nat} {x:List (AV × AV) × Option (AV × AV)} (hq:U.dw q) (h:U.iter o=some x):o ≠ q:=fun e=>by
 subst e
 simp [St.iter,hq.1] at h
theorem MM (i:Nat):closed (K.yT i)=true:=by
 show closed (if i=0 then .cU vw else if i=7 then .cU wg else .any)=true
 split
 . decide +kernel
 . split
   . decide +kernel
   . rfl
theorem LK {L:List AV} (h2:L[2]?=some opsV) (k:Int) (U:St) (R:cO->St->Prop) (hR:∀ af,R (.ret (.int .i64 (qm k))) af):ag K 236 [.cU L,.int .u8 k] U R:=by
 refine Ru ?_
 have hL:iH (L.drop 2)=.val opsV:=by
  have:L.drop 2=opsV::L.drop 3:=by
   rw [fU (de.1 h2).1]
   simp [(de.1 h2).2]
  rw [this]; rfl
 have hrg:∀ (l:List Xu) fk,tT (some fk) (.gb (l.map fun p=>(tO p).1) (l.map fun p=>(tO p).2))=.new .it none (.iter (l.map tO) none):=fun l fk=>by rw [<- zip_map]; rfl
 have SV:∀ (l:List (List UInt8 × Int)) fk,tT (some fk) (.gb (l.map fun p=>(jd p).1) (l.map fun p=>(jd p).2))=.new .it none (.iter (l.map jd) none):=fun l fk=>by rw [<- zip_map]; rfl
 simp only [Rs,FU,al,dB,E8,hL,opsV,hrg,pq,NV.at]
 intro o ho
 refine ⟨fun m v1 bP af=>∃ l done c,v1=.int .u8 k/\bP=.it o/\af.iter o=some (l.map tO,c)/\m=l.length/\(done++l).Perm opsL/\∀ p ∈ done,∀ q ∈ p.2,q.2 ≠ k,⟨6,opsL,[],none,rfl,rfl,by simp,rfl,.refl _,by simp⟩,?_⟩
 rintro m v1 bP af ⟨l,done,c,rfl,rfl,hit,rfl,hp,hd⟩
 refine DR hit (fun hl=>?_) (fun a l' Ew=>?_)
 . subst hl
   simp only [bH,dQ,gH,al,bG]
   have acC:∀ p ∈ opsL,∀ q ∈ p.2,q.2 ≠ k:=fun p Hm=>hd p (by have:=hp.mem_iff (a:=p); simp at this; exact this.2 Hm)
   have pT:=LL acC
   simp (contextual:=true) [-Int.not_le,-Int.not_lt,oI,nD,bh]
   repeat' (first | refine And.intro ?_ ?_ | intro _)
   all_goals (refine aj.eq (hR _) ?_; rw [pT]; simp only [AV.int.injEq,true_and])
   all_goals grind
 . simp only [bH,dQ,gH,al,bT]
   have he:mf (.it o) (af.set o (.iter (l'.map tO) (some (tO a))))=.val (.aG [(tO a).1,(tO a).2]):=by simp [mf]
   have e2:(tO a).2=.gb (a.2.map fun q=>(jd q).1) (a.2.map fun q=>(jd q).2):=rfl
   simp only [he,al,bH,dQ,List.drop_succ_cons,gH]
   rw [e2,SV]
   simp only [pq,NV.at]
   intro o2 UT
   have cV:o ≠ o2:=LF (x:=(l'.map tO,some (tO a))) UT (by simp)
   refine ⟨fun m v1 v5 bP v20 af=>∃ l2 jP c2 c,v1=.int .u8 k/\v5=.int .i64 a.1/\bP=.it o/\v20=.it o2/\af.iter o2=some (l2.map jd,c2)/\af.iter o=some (l'.map tO,c)/\m=l2.length/\(jP++l2).Perm a.2/\∀ q ∈ jP,q.2 ≠ k,⟨a.2.length,a.2,[],none,some (tO a),rfl,rfl,rfl,rfl,by simp,by simp [cV],rfl,.refl _,by simp⟩,?_⟩
   rintro m v1 v5 bP v20 bg ⟨l2,jP,c2,c3,rfl,rfl,rfl,rfl,aeo,ZZ,rfl,sG,AR⟩
   refine DR aeo (fun hl=>?_) (fun b l3 yg=>?_)
   . subst hl
     simp only [bH,dQ,gH,al,bG]
     have hlen:l'.length < l.length:=by rw [<- Ew.length_eq]; simp
     refine ⟨l'.length,hlen,l',done++[a],c3,rfl,rfl,ZZ,rfl,?_,?_⟩
     . rw [kI]
       exact (List.Perm.append_left done Ew).trans hp
     . intro p Hm q hq
       rcases fN.1 Hm with h | h
       . exact hd p h q hq
       . simp only [kH] at h
         subst h
         exact AR q (by have:=sG.mem_iff (a:=q); simp at this; exact this.2 hq)
   . have he2:mf (.it o2) (bg.set o2 (.iter (l3.map jd) (some (jd b))))=.val (.aG [(jd b).1,(jd b).2]):=by simp [mf]
     simp only [bH,dQ,gH,al,bT]
     rw [he2]
     simp only [bH,dQ,gH,al,List.drop_succ_cons,jd,aT,bh]
     have hb:b ∈ a.2:=sG.mem_iff.1 (List.mem_append_right _ (yg.mem_iff.1 (by simp)))
     have ha:a ∈ opsL:=hp.mem_iff.1 (List.mem_append_right _ (Ew.mem_iff.1 (by simp)))
     refine ⟨fun hk=>?_,fun hk=>?_⟩
     . refine aj.eq (hR _) ?_
       rw [<- hk,On a ha b hb]
     . have hlen:l3.length < l2.length:=by rw [<- yg.length_eq]; simp
       refine ⟨l3.length,hlen,l3,jP++[b],some (jd b),c3,rfl,rfl,rfl,rfl,by simp [jd],by simp [cV,ZZ],rfl,?_,?_⟩
       . rw [kI]
         exact (List.Perm.append_left jP yg).trans sG
       . intro q hq
         rcases fN.1 hq with h | h
         . exact AR q h
         . simp only [kH] at h
           subst h; exact hk
theorem LM {L:List AV} (h2:L[2]?=some opsV) (hc:cK L=true) (k:Int):Pure K 236 [.cU L,.int .u8 k] (.int .i64 (qm k)) :=
 Pure.Ar MM (by simp [cK,closed,hc]) rfl 1 (LK h2 k _ _ fun af=>⟨_,rfl,rfl⟩)
theorem uU:∀ (l:List AV),cK (l.map fun _=>AV.any)=true
 | []=>rfl
 | x::l=>by simp [cK,closed,uU l]
theorem zk {b:Nat} {x y:AV} {l:List AV} {k:Int} {U:St} {R:cO->St->Prop} (hb:U.box b=some (x::y::opsV::l)) (hR:R (.ret (.int .i64 (qm k))) U):ag K 236 [.box b 0,.int .u8 k] U R:=by
 refine ag.W0 5 MM (args0:=[.cU (.any::.any::opsV::l.map fun _=>.any),.int .u8 k]) (fun g vs h=>?_) ?_ rfl (LM rfl ?_ k) hR
 . have e:([.box b 0,.int .u8 k]:List AV).map (resolve 5 U)=[.cU (resolve 4 U x::resolve 4 U y::opsV::l.map (resolve 4 U)),.int .u8 k]:=by
    simp only [dV,jU,resolve,hb,dQ]
    rfl
   rw [e] at h
   refine Wk.cU (.drop _ (.drop _ (.bo _ ?_))) h
   have:=Wk.any (l.map (resolve 4 U))
   rw [List.map_map] at this; exact this
 . simp only [cK,closed,uU,Bool.and_true,Bool.true_and]; decide +kernel
 . simp only [cK,closed,uU,Bool.and_true,Bool.true_and]; decide +kernel
end Go.Rip
namespace Go.Rip
open Go.RowKit
def Mu (f:Nat) (args:List AV) (e:ES):Option (AV × ES):=match args with
 | [.box b 0,.int .u8 k]=>cond (Nat.beq f 236) (match (bJ e).box b with | some (_::_::m::_)=>cond (jl m opsV) (some (.int .i64 (qm k),e)) none | _=>none) none
 | _=>TT f args e
theorem ke {α:Type} {b:Bool} {x:Option α} {y:α} (h:cond b x none=some y):b=true/\x=some y:=by
 cases b with
 | true=>exact ⟨rfl,h⟩
 | false=>cases h
theorem TU:∀ f args x,Mv f args=some x->Pure K f args x:=by
 intro f args x h
 unfold Mv at h
 split at h
 . obtain ⟨h1,h2⟩:=ke h
   simp only [bX,da] at h1
   obtain ⟨h3,h4,h5⟩:=h1
   have:=eQ h3
   subst this
   cases h2
   rename_i s c
   have e:=vV s c
   rw [sk] at e
   have e2:(c.toNat.toUInt8).toNat=c.toNat:=by simp [Nat.toUInt8]; omega
   rw [e2] at e; exact e
 . obtain ⟨h1,h2⟩:=ke h
   have:=eQ h1
   subst this
   cases h2
   rename_i s c
   have e:=vW s c
   rw [sk] at e; exact e
 . obtain ⟨h1,h2⟩:=ke h
   simp only [bX,da] at h1
   obtain ⟨h3,h4,h5⟩:=h1
   have:=eQ h3
   subst this
   cases h2
   rename_i n
   have e:=EU n (by omega) (by omega)
   have e2:Lib.itoa n=GI 8 n.toNat:=by
    rw [J0 7 n.toNat (by omega)]
    unfold Lib.itoa
    rw [if_neg (by omega)]
   rw [e2] at e; exact e
 . cases h
theorem W9:∀ f args e x e',TT f args e=some (x,e')->∀ R,R (.ret x) (bJ e')->ag K f args (bJ e) R:=by
 intro f args e x e' h R hR
 unfold TT at h
 split at h
 . rename_i b
   cases h1:Nat.beq f 190 with
   | true =>
     have:=eQ h1
     subst this
     rw [h1,cond_true] at h
     split at h
     . rename_i t y hb
       obtain ⟨h2,h3⟩:=ke h
       have:=eQ h2
       subst this
       cases h3
       refine uh (y:=y) hb ?_
       rw [mS] at hR; exact hR
     . rename_i b' rest hb
       obtain ⟨h2,h3⟩:=ke h
       have:=eQ h2
       subst this
       cases h3
       exact qM (rest:=rest) (by show (match (bJ e).live b' with | some (.box l)=>some l | some (.sK _ l)=>some l | _=>none)=_; rw [show (bJ e).live b'=e.live.get b' from rfl,hb]) hR
     . cases h
   | false =>
     rw [h1,cond_false] at h
     obtain ⟨h2,h3⟩:=ke h
     have:=eQ h2
     subst this
     split at h3
     . rename_i a n τ l hb
       split at h3
       . rename_i c bs m Cu ht
         obtain ⟨h4,h5⟩:=ke h3
         simp only [bX] at h4
         have e1:=eQ h4.1
         have e2:=eQ h4.2
         subst e1
         cases h5
         have e3:=Cc Cu
         refine vA (a:=a) (l:=c::bs) (τ:=τ) (by simp) (by rw [hb,e3,e2]; rfl) (by rw [ht,e2]; rfl) ?_
         rw [BS] at hR; exact hR
       . cases h3
     . rename_i a hb
       cases h3
       exact rM (a:=a) hb hR
     . cases h3
 . cases h
theorem KN:∀ f args e x e',Mu f args e=some (x,e')->∀ R,R (.ret x) (bJ e')->ag K f args (bJ e) R:=by
 intro f args e x e' h R hR
 unfold Mu at h
 split at h
 . obtain ⟨h1,h2⟩:=ke h
   have:=eQ h1
   subst this
   split at h2
   . rename_i m l hb
     obtain ⟨h3,h4⟩:=ke h2
     have:=vE h3
     subst this
     cases h4
     exact zk hb hR
   . cases h2
 . exact W9 f args e x e' h R hR
def smV (f:Nat) (args:List AV):Option AV:=match args with
 | []=>cond (Nat.beq f 153) (some Dv) (cond (Nat.beq f 96) (some L5) (cond (Nat.beq f 97) (some DJ) (cond (Nat.beq f 130) (some pb) none)))
 | _=>Mv f args
theorem aaU:∀ f args x,smV f args=some x->Pure K f args x:=by
 intro f args x h
 unfold smV at h
 split at h
 . cases h1:Nat.beq f 153 with
   | true=>rw [h1] at h; have:=eQ h1; subst this; cases h; exact Dw
   | false =>
     rw [h1,cond_false] at h
     cases h1:Nat.beq f 96 with
     | true=>rw [h1] at h; have:=eQ h1; subst this; cases h; exact HU
     | false =>
       rw [h1,cond_false] at h
       cases h1:Nat.beq f 97 with
       | true=>rw [h1] at h; have:=eQ h1; subst this; cases h; exact Jc
       | false =>
         rw [h1,cond_false] at h
         obtain ⟨h1,h2⟩:=ke h
         have:=eQ h1; subst this; cases h2; exact Cm
 . exact TU f args x h
def pfV (f:Nat):Bool:=Nat.beq f 153 || (Nat.beq f 96 || (Nat.beq f 97 || (Nat.beq f 130 || (Nat.beq f 214 || (Nat.beq f 243 || Nat.beq f 257)))))
noncomputable def V2:iO:=⟨K,Vc,pfV,smV,Mu,fun f=>Nat.beq f 54,136,fun _ _=>none⟩
theorem KW:qJ V2:=⟨aaU,KN,fun f h=>by have:=eQ h; subst this; exact Iw,Gj⟩
end Go.Rip
