import Derived.Test.YtnfpmiiopiinbaaGreatDoorE
import Derived.Test.YtnfpmiiopiinbaaGreatDoorG
set_option linter.all false
set_option maxRecDepth 100000
namespace Go.Rip
open Go.Proofs
def smT(l:List (Nat×List AV×AV))(f:Nat)(args:List AV):Option AV:=match l.find? (λx=>Nat.beq x.1 f&&sg x.2.1 args) with
 | some x=>some x.2.2
 | none=>none
def ZM{l:List (Nat×List AV×AV)}(h:∀x∈l,Pure K x.1 x.2.1 x.2.2)(f:Nat)(args:List AV)(x:AV)(hx:smT l f args=some x):Pure K f args x:=by
 unfold smT at hx;split at hx
 . rename_i y hy;cases hx;have h1:=List.find?_some hy;simp only[cS]at h1;have e1:=gN h1.1;have e2:=nB h1.2;have:=h y (List.mem_of_find?_eq_some hy);rw[e1,e2]at this;exact this
 . cases hx
def kY:∀i,closed (K.C2 i):=λi=>by
 show closed (if i=0 then .dJ Aa else if i=7 then .dJ AQ else .any)=true
 split
 . decide +kernel
 . split
   . decide +kernel
   . rfl
def mu0(f:Nat):List Nat:=cond (Nat.beq f 110||(Nat.beq f 69||Nat.beq f 157)) (List.range 100) []
noncomputable def V0:kV:=⟨K,mu0,λ_=>false,λ_ _=>none,λ_ _ _=>none,λ_=>false,136,λ_ _=>none⟩
def qR:uL V0:=⟨λ_ _ _ h=>(by cases h),λ_ _ _ _ _ h=>(by cases h),λ_ h=>(by cases h),Lg⟩
def HS:AV:=.iK [.str [97,110,100],.str [97,115],.str [98,111,111,108],.str [99,101,108,108],.str [99,104,111,111,115,101],.str [99,111,109],.str [100,101,102],.str [100,111],.str [101,108,115,101],.str [101,120,112,111,114,116],.str [102,97,108,115,101],.str [102,110],.str [103,101,116],.str [104,97,110,103],.str [105,102],.str [105,109,112,111,114,116],.str [105,110],.str [105,110,116],.str [106,117,109,112],.str [108,97,98,101,108],.str [110,101,119],.str [110,111,116],.str [110,111,116,105,99,101],.str [111,102],.str [111,114],.str [112,117,116],.str [115,107,105,112],.str [116,104,101,110],.str [116,114,117,101],.str [119,104,105,108,101]] [.bool true,.bool true,.bool true,.bool true,.bool true,.bool true,.bool true,.bool true,.bool true,.bool true,.bool true,.bool true,.bool true,.bool true,.bool true,.bool true,.bool true,.bool true,.bool true,.bool true,.bool true,.bool true,.bool true,.bool true,.bool true,.bool true,.bool true,.bool true,.bool true,.bool true]
def DD:AV:=.iK [bv 2,bv 3,bv 5,bv 6,bv 7,bv 8] [.iK [.str [111,114]] [co 17],.iK [.str [97,110,100]] [co 18],.iK [.str [60],.str [61]] [co 21,co 20],.iK [.str [43],.str [45]] [co 22,co 23],.iK [.str [42]] [co 24],.iK [.str [97,115]] [co 25]]
def uR:AV:=.iK [.str [99,104,111,111,115,101],.str [105,102],.str [108,97,98,101,108],.str [110,101,119],.str [110,111,116,105,99,101],.str [119,104,105,108,101]] [.func (.func 162) [] [],.func (.func 158) [] [],.func (.func 161) [] [],.func (.func 160) [] [],.func (.func 163) [] [],.func (.func 159) [] []]
def sD:AV:=.iK [co 1,co 2,co 3,co 4,co 5,co 6,co 7,co 8,co 9,co 10,co 11,co 12,co 13,co 14,co 15,co 16,co 17,co 18,co 19,co 20,co 21,co 22,co 23,co 24,co 25,co 26,co 27,co 28,co 29,co 30,co 31,co 32,co 33,co 34,co 35,co 36,co 37] [.agg [.bool false,.bool false,.bool false,.vec 1 .full [.func (.func 179) [] [],bv 0,bv 900]],.agg [.bool true,.bool false,.bool false,.vec 1 .full [.func (.func 181) [] [],bv 1,bv 1]],.agg [.bool true,.bool false,.bool false,.vec 3 .full [.func (.func 242) [] [.dJ [co 5]],bv 0,bv 900,.func (.func 206) [] [],bv 1,bv 1,.func (.func 185) [] [],bv 1,bv 1]],.agg [.bool true,.bool false,.bool false,.vec 3 .full [.func (.func 242) [] [.dJ [co 5]],bv 0,bv 900,.func (.func 206) [] [],bv 1,bv 1,.func (.func 185) [] [],bv 1,bv 1]],.agg [.bool true,.bool false,.bool false,.vec 1 .full [.func (.func 181) [] [],bv 1,bv 1]],.agg [.bool false,.bool true,.bool false,.af],.agg [.bool false,.bool true,.bool false,.af],.agg [.bool false,.bool false,.bool false,.vec 1 .full [.func (.func 206) [] [],bv 2,bv 900]],.agg [.bool false,.bool false,.bool false,.vec 1 .full [.func (.func 185) [] [],bv 2,bv 900]],.agg [.bool false,.bool false,.bool false,.vec 1 .full [.func (.func 185) [] [],bv 3,bv 3]],.agg [.bool false,.bool false,.bool false,.vec 1 .full [.func (.func 185) [] [],bv 2,bv 2]],.agg [.bool true,.bool true,.bool true,.vec 1 .full [.func (.func 185) [] [],bv 1,bv 1]],.agg [.bool true,.bool false,.bool false,.vec 1 .full [.func (.func 185) [] [],bv 2,bv 2]],.agg [.bool true,.bool true,.bool false,.vec 1 .full [.func (.func 185) [] [],bv 1,bv 1]],.agg [.bool false,.bool false,.bool false,.vec 1 .full [.func (.func 185) [] [],bv 2,bv 2]],.agg [.bool true,.bool false,.bool false,.vec 1 .full [.func (.func 185) [] [],bv 1,bv 1]],.agg [.bool false,.bool false,.bool false,.vec 1 .full [.func (.func 185) [] [],bv 2,bv 2]],.agg [.bool false,.bool false,.bool false,.vec 1 .full [.func (.func 185) [] [],bv 2,bv 2]],.agg [.bool false,.bool false,.bool false,.vec 1 .full [.func (.func 185) [] [],bv 1,bv 1]],.agg [.bool false,.bool false,.bool false,.vec 1 .full [.func (.func 185) [] [],bv 2,bv 2]],.agg [.bool false,.bool false,.bool false,.vec 1 .full [.func (.func 185) [] [],bv 2,bv 2]],.agg [.bool false,.bool false,.bool false,.vec 1 .full [.func (.func 185) [] [],bv 2,bv 2]],.agg [.bool false,.bool false,.bool false,.vec 1 .full [.func (.func 185) [] [],bv 2,bv 2]],.agg [.bool false,.bool false,.bool false,.vec 1 .full [.func (.func 185) [] [],bv 2,bv 2]],.agg [.bool false,.bool true,.bool false,.vec 1 .full [.func (.func 185) [] [],bv 1,bv 1]],.agg [.bool false,.bool true,.bool false,.af],.agg [.bool false,.bool false,.bool false,.af],.agg [.bool false,.bool false,.bool false,.af],.agg [.bool false,.bool false,.bool false,.af],.agg [.bool false,.bool false,.bool false,.af],.agg [.bool true,.bool false,.bool false,.af],.agg [.bool true,.bool false,.bool false,.af],.agg [.bool true,.bool false,.bool false,.af],.agg [.bool true,.bool false,.bool false,.vec 1 .full [.func (.func 207) [] [],bv 1,bv 900]],.agg [.bool false,.bool false,.bool false,.vec 2 .full [.func (.func 242) [] [.dJ [co 37]],bv 1,bv 900,.func (.func 185) [] [],bv 1,bv 1]],.agg [.bool false,.bool false,.bool false,.vec 3 .full [.func (.func 185) [] [],bv 1,bv 1,.func (.func 242) [] [.dJ [co 37]],bv 1,bv 1,.func (.func 185) [] [],bv 1,bv 1]],.agg [.bool true,.bool false,.bool false,.af]]
def HU:Pure K 153 [] HS:=Pure.iz (V:=V0) qR 1000 10 kY (by kernel_rfl)
def FY:Pure K 96 [] DD:=Pure.iz (V:=V0) qR 1000 10 kY (by kernel_rfl)
def ET:Pure K 97 [] uR:=Pure.iz (V:=V0) qR 1000 10 kY (by kernel_rfl)
def lW(n:Nat):AV:=.func (.func n) [] []
def sj(n:Int):AV:=.func (.func 242) [] [.dJ [co n]]
def so0:Pure K 202 [bv 2,lW 185] (.agg [lW 185,bv 2,bv 2]):=Pure.iz (V:=V0) qR 1000 10 kY (by kernel_rfl)
def so1:Pure K 202 [bv 3,lW 185] (.agg [lW 185,bv 3,bv 3]):=Pure.iz (V:=V0) qR 1000 10 kY (by kernel_rfl)
def so2:Pure K 203 [bv 0,lW 179] (.agg [lW 179,bv 0,bv 900]):=Pure.iz (V:=V0) qR 1000 10 kY (by kernel_rfl)
def so3:Pure K 203 [bv 2,lW 206] (.agg [lW 206,bv 2,bv 900]):=Pure.iz (V:=V0) qR 1000 10 kY (by kernel_rfl)
def so4:Pure K 203 [bv 2,lW 185] (.agg [lW 185,bv 2,bv 900]):=Pure.iz (V:=V0) qR 1000 10 kY (by kernel_rfl)
def so5:Pure K 203 [bv 1,lW 207] (.agg [lW 207,bv 1,bv 900]):=Pure.iz (V:=V0) qR 1000 10 kY (by kernel_rfl)
def so6:Pure K 203 [bv 1,sj 37] (.agg [sj 37,bv 1,bv 900]):=Pure.iz (V:=V0) qR 1000 10 kY (by kernel_rfl)
def so7:Pure K 203 [bv 0,sj 5] (.agg [sj 5,bv 0,bv 900]):=Pure.iz (V:=V0) qR 1000 10 kY (by kernel_rfl)
def so8:Pure K 205 [lW 181] (.agg [lW 181,bv 1,bv 1]):=Pure.iz (V:=V0) qR 1000 10 kY (by kernel_rfl)
def so9:Pure K 205 [lW 185] (.agg [lW 185,bv 1,bv 1]):=Pure.iz (V:=V0) qR 1000 10 kY (by kernel_rfl)
def akv:Pure K 205 [lW 206] (.agg [lW 206,bv 1,bv 1]):=Pure.iz (V:=V0) qR 1000 10 kY (by kernel_rfl)
def akw:Pure K 205 [sj 37] (.agg [sj 37,bv 1,bv 1]):=Pure.iz (V:=V0) qR 1000 10 kY (by kernel_rfl)
def akx:Pure K 204 [co 5] (sj 5):=Pure.iz (V:=V0) qR 1000 10 kY (by kernel_rfl)
def aky:Pure K 204 [co 37] (sj 37):=Pure.iz (V:=V0) qR 1000 10 kY (by kernel_rfl)
def sm1:List (Nat×List AV×AV):=[(202,[bv 2,lW 185],.agg [lW 185,bv 2,bv 2]),
 (202,[bv 3,lW 185],.agg [lW 185,bv 3,bv 3]),
 (203,[bv 0,lW 179],.agg [lW 179,bv 0,bv 900]),
 (203,[bv 2,lW 206],.agg [lW 206,bv 2,bv 900]),
 (203,[bv 2,lW 185],.agg [lW 185,bv 2,bv 900]),
 (203,[bv 1,lW 207],.agg [lW 207,bv 1,bv 900]),
 (203,[bv 1,sj 37],.agg [sj 37,bv 1,bv 900]),
 (203,[bv 0,sj 5],.agg [sj 5,bv 0,bv 900]),
 (205,[lW 181],.agg [lW 181,bv 1,bv 1]),
 (205,[lW 185],.agg [lW 185,bv 1,bv 1]),
 (205,[lW 206],.agg [lW 206,bv 1,bv 1]),
 (205,[sj 37],.agg [sj 37,bv 1,bv 1]),
 (204,[co 5],sj 5),
 (204,[co 37],sj 37)]
def ahm:∀x∈sm1,Pure K x.1 x.2.1 x.2.2:=by
 intro x hx;simp only[sm1,dy,List.not_mem_nil,or_false]at hx;rcases hx with rfl|rfl|rfl|rfl|rfl|rfl|rfl|rfl|rfl|rfl|rfl|rfl|rfl|rfl
 . exact so0
 . exact so1
 . exact so2
 . exact so3
 . exact so4
 . exact so5
 . exact so6
 . exact so7
 . exact so8
 . exact so9
 . exact akv
 . exact akw
 . exact akx
 . exact aky
def pf1(f:Nat):Bool:=Nat.beq f 202||(Nat.beq f 203||(Nat.beq f 204||Nat.beq f 205))
def afr:List Row:=[⟨16384,0,0⟩,⟨32768,0,0⟩,⟨65536,32768,2⟩,⟨131072,65536,4⟩,⟨0,147456,9⟩,⟨262144,0,2⟩,⟨524288,262144,32⟩,⟨1048576,524288,64⟩,⟨0,1064960,129⟩,⟨2097152,8,0⟩,⟨0,2113536,513⟩,⟨4194304,8,0⟩,⟨0,4210688,2049⟩,⟨8388608,0,32⟩,⟨16777216,8388608,8192⟩,⟨33554432,16777216,16384⟩,⟨0,33570816,32769⟩,⟨67108864,0,0⟩,⟨0,67125248,131073⟩,⟨134217728,0,0⟩,⟨0,134234112,524289⟩,⟨268435456,0,8192⟩,⟨536870912,268435456,2097152⟩,⟨1073741824,536870912,4194304⟩,⟨0,1073758208,8388609⟩,⟨2147483648,0,2097152⟩,⟨4294967296,2147483648,33554432⟩,⟨8589934592,4294967296,67108864⟩,⟨0,8589950976,134217729⟩,⟨17179869184,0,33554432⟩,⟨34359738368,17179869184,536870912⟩,⟨68719476736,34359738368,1073741824⟩,⟨0,68719493120,2147483649⟩,⟨137438953472,2,0⟩,⟨0,137438969856,8589934593⟩,⟨274877906944,0,536870912⟩,⟨549755813888,274877906944,34359738368⟩,⟨1099511627776,549755813888,68719476736⟩,⟨0,1099511644160,137438953473⟩,⟨2199023255552,2,0⟩,⟨4398046511104,2199023255552,549755813888⟩,⟨8796093022208,4398046511104,1099511627776⟩,⟨0,8796093038592,2199023255553⟩,⟨17592186044416,0,34359738368⟩,⟨35184372088832,17592186044416,8796093022208⟩,⟨70368744177664,35184372088832,17592186044416⟩,⟨0,70368744194048,35184372088833⟩,⟨140737488355328,2,0⟩,⟨0,140737488371712,140737488355329⟩,⟨281474976710656,0,8796093022208⟩,⟨562949953421312,281474976710656,562949953421312⟩,⟨1125899906842624,562949953421312,1125899906842624⟩,⟨0,1125899906859008,2251799813685249⟩,⟨2251799813685248,2,0⟩,⟨0,2251799813701632,9007199254740993⟩,⟨4503599627370496,2,0⟩,⟨0,4503599627386880,36028797018963969⟩,⟨9007199254740992,0,562949953421312⟩,⟨18014398509481984,9007199254740992,144115188075855872⟩,⟨36028797018963968,18014398509481984,288230376151711744⟩,⟨0,36028797018980352,576460752303423489⟩,⟨72057594037927936,2,0⟩,⟨0,72057594037944320,2305843009213693953⟩,⟨144115188075855872,2,0⟩,⟨0,144115188075872256,9223372036854775809⟩,⟨288230376151711744,2,0⟩,⟨0,288230376151728128,36893488147419103233⟩,⟨576460752303423488,2,0⟩,⟨0,576460752303439872,147573952589676412929⟩,⟨1152921504606846976,2,0⟩,⟨0,1152921504606863360,590295810358705651713⟩,⟨2305843009213693952,0,144115188075855872⟩,⟨4611686018427387904,2305843009213693952,2361183241434822606848⟩,⟨9223372036854775808,4611686018427387904,4722366482869645213696⟩,⟨0,9223372036854792192,9444732965739290427393⟩,⟨18446744073709551616,0,0⟩,⟨0,18446744073709568000,37778931862957161709569⟩,⟨36893488147419103232,0,0⟩,⟨0,36893488147419119616,151115727451828646838273⟩,⟨73786976294838206464,0,0⟩,⟨0,73786976294838222848,604462909807314587353089⟩,⟨147573952589676412928,0,0⟩,⟨0,147573952589676429312,2417851639229258349412353⟩,⟨295147905179352825856,0,0⟩,⟨0,295147905179352842240,9671406556917033397649409⟩,⟨590295810358705651712,4,0⟩,⟨0,590295810358705668096,38685626227668133590597633⟩,⟨1180591620717411303424,4,0⟩,⟨0,1180591620717411319808,154742504910672534362390529⟩,⟨2361183241434822606848,4,0⟩,⟨0,2361183241434822623232,618970019642690137449562113⟩,⟨4722366482869645213696,0,2361183241434822606848⟩,⟨9444732965739290427392,4722366482869645213696,2475880078570760549798248448⟩,⟨18889465931478580854784,9444732965739290427392,4951760157141521099596496896⟩,⟨0,18889465931478580871168,9903520314283042199192993793⟩,⟨37778931862957161709568,0,2475880078570760549798248448⟩,⟨75557863725914323419136,37778931862957161709568,39614081257132168796771975168⟩,⟨151115727451828646838272,0,79228162514264337593543950336⟩,⟨302231454903657293676544,226673591177742970257408,237684487542793012780631851008⟩,⟨604462909807314587353088,302231454903657293676544,316912650057057350374175801344⟩,⟨0,604462909807314587369472,633825300114114700748351602689⟩,⟨1208925819614629174706176,0,158456325028528675187087900672⟩,⟨2417851639229258349412352,0,2535301200456458802993406410752⟩,⟨4835703278458516698824704,2417851639229258349412352,5070602400912917605986812821504⟩,⟨9671406556917033397649408,0,10141204801825835211973625643008⟩,⟨19342813113834066795298816,15716035654990179271180288,32958915605933964438914283339776⟩,⟨38685626227668133590597632,19342813113834066795298816,40564819207303340847894502572032⟩,⟨0,38685626227668133590614016,81129638414606681695789005144065⟩,⟨77371252455336267181195264,4,0⟩,⟨0,77371252455336267181211648,324518553658426726783156020576257⟩,⟨154742504910672534362390528,16384,1298074214633706907132624082305023⟩,⟨1,154742504910672534362390528,2596148429267413814265248164610047⟩]
def agR:List Row×List (Bool×Nat)×qy×List (Bool×Nat):=(afr,[(true,1),(true,2),(true,3),(true,5),(true,6),(true,7),(true,9),(true,11),(true,13),(true,14),(true,15),(true,17),(true,19),(true,21),(true,22),(true,23),(true,25),(true,26),(true,27),(true,29),(true,30),(true,31),(true,33),(true,35),(true,36),(true,37),(true,39),(true,40),(true,41),(true,43),(true,44),(true,45),(true,47),(true,49),(true,50),(true,51),(true,53),(true,55),(true,57),(true,58),(true,59),(true,61),(true,63),(true,65),(true,67),(true,69),(true,71),(true,72),(true,73),(true,75),(true,77),(true,79),(true,81),(true,83),(true,85),(true,87),(true,89),(true,91),(true,92),(true,93),(true,95),(true,96),(true,97),(true,98),(true,99),(true,101),(true,102),(true,103),(true,104),(true,105),(true,106),(true,108),(false,0)],⟨166,14,.u8,[4,8,10,12,16,18,20,24,28,32,34,38,42,46,48,52,54,56,60,62,64,66,68,70,74,76,78,80,82,84,86,88,90,94,100,107,109]⟩,[(true,110),(true,111)])
noncomputable def V1:kV:=⟨K,mu0,pf1,smT sm1,λ_ _ _=>none,λ_=>false,136,λf r=>cond (Nat.beq f 130&&Nat.beq r 4) (some agR) none⟩
def ajb:uL V1:=⟨ZM ahm,λ_ _ _ _ _ h=>(by cases h),λ_ h=>(by cases h),Lg⟩
def GJ:Pure K 130 [] sD:=Pure.iz (V:=V1) ajb 1000 10 kY (by kernel_rfl)
end Go.Rip
namespace Go.Rip
open Go.RowKit
variable {α:Type}
def Ve(f:α->AV×AV)(l:List α):∀{x:AV×AV}{r:List (AV×AV)},(x,r)∈xm (l.map f)->∃a l',x=f a/\r=l'.map f/\(a::l').Perm l:=by
 induction l with
 | nil=>intro _ _ h;cases h
 | cons b l ih =>
   intro x r h;simp only[fh,xm,dy,List.mem_map]at h;rcases h with h|⟨p,h1,h2⟩
   . cases h;exact⟨b,l,rfl,rfl,.refl _⟩
   . obtain⟨a,l',he,hr,hp⟩:=ih (x:=p.1) (r:=p.2) h1;cases h2;exact⟨a,b::l',he,by rw[hr];rfl,(List.Perm.swap ..).trans (hp.cons b)⟩
def Iv{C:dQ}{o:Nat}{U:St}{f:α->AV×AV}{l:List α}{c:Option (AV×AV)}{k kp:am}(h:U.iter o=some (l.map f,c))
 (h0:l=[]->k (.az [.bool false]) U) (h1:∀a l',(a::l').Perm l->k (.az [.bool true,(f a).1,(f a).2]) (U.set o (.iter (l'.map f) (some (f a))))):(vM (.it o) U).wp C U k kp:=by
 cases l with
 | nil=>simp only[vM,h,mq];exact h0 rfl
 | cons b l =>
   simp only[vM,h,fh];intro p hp;obtain⟨q,hq,rfl⟩:=List.mem_map.1 hp;obtain⟨x,r⟩:=q;obtain⟨a,l',rfl,rfl,Jp⟩:=Ve f (b::l) hq;exact h1 a l' Jp
@[simp] theorem iter_set(U:St)(b y:Nat)(r:List (AV×AV))(c:Option (AV×AV)):(U.set b (.iter r c)).iter y=if y=b then some (r,c) else U.iter y:=by
 simp only[St.iter,St.set];by_cases h:y=b<;>simp[h]
@[simp] theorem aj9(U:St)(b y:Nat)(r:List (AV×AV))(c:Option (AV×AV)):(U.new b (.iter r c)).iter y=if y=b then some (r,c) else U.iter y:=by
 simp only[St.iter,St.new];by_cases h:y=b<;>simp[h]
abbrev OpL:=Int×List (List UInt8×Int)
def opsL:List OpL:=[(2,[([111,114],17)]),(3,[([97,110,100],18)]),(5,[([60],21),([61],20)]),(6,[([43],22),([45],23)]),(7,[([42],24)]),(8,[([97,115],25)])]
def lB(p:List UInt8×Int):AV×AV:=(.str p.1,co p.2)
def yl(p:OpL):AV×AV:=(bv p.1,.iK (p.2.map λq=>(lB q).1) (p.2.map λq=>(lB q).2))
def opsV:AV:=.iK (opsL.map λp=>(yl p).1) (opsL.map λp=>(yl p).2)
def ue(k:Int):Int:=match opsL.find? (λp=>p.2.any λq=>q.2==k) with
 | some p=>p.1
 | none=>if k=9 then 0 else if k=19 then 4 else if 10<=k/\k<=16 then 1 else 9
def zip_map(f:α->AV×AV)(l:List α):(l.map λp=>(f p).1).zip (l.map λp=>(f p).2)=l.map f:=by
 induction l with
 | nil=>rfl
 | cons a l ih=>simp[ih]
def UM:∀p∈opsL,∀q∈p.2,ue q.2=p.1:=by decide
def RX{k:Int}(h:∀p∈opsL,∀q∈p.2,q.2≠k):ue k=if k=9 then 0 else if k=19 then 4 else if 10<=k/\k<=16 then 1 else 9:=by
 have:opsL.find? (λp=>p.2.any λq=>q.2==k)=none:=by
  rw[List.find?_eq_none];intro p hp hq;simp only[List.any_eq_true,beq_iff_eq]at hq;obtain⟨q,hq,e⟩:=hq;exact h p hp q hq e
 simp only[ue,this]
def RO{U:St}{o q:Nat}{x:List (AV×AV)×Option (AV×AV)}(hq:U.eO q)(h:U.iter o=some x):o≠q:=λe=>by
 subst e;simp[St.iter,hq.1]at h
def S5(i:Nat):closed (K.C2 i):=by
 show closed (if i=0 then .dJ Aa else if i=7 then .dJ AQ else .any)=true
 split
 . decide +kernel
 . split
   . decide +kernel
   . rfl
def RW{L:List AV}(h2:L[2]?=some opsV)(k:Int)(U:St)(R:bi)(hR:∀aa,R (.ret (bv (ue k))) aa):ag K 236 [.dJ L,co k] U R:=by
 refine Zf ?_;have hL:kn (L.drop 2)=.val opsV:=by
  have:L.drop 2=opsV::L.drop 3:=by
   rw[gI (dw.1 h2).1];simp[(dw.1 h2).2]
  rw[this];rfl
 have hrg:∀(l:List OpL)fk,yq (some fk) (.iK (l.map λp=>(yl p).1) (l.map λp=>(yl p).2))=.new .it none (.iter (l.map yl) none):=λl fk=>by rw[<-zip_map];rfl
 have aa5:∀(l:List (List UInt8×Int))fk,yq (some fk) (.iK (l.map λp=>(lB p).1) (l.map λp=>(lB p).2))=.new .it none (.iter (l.map lB) none):=λl fk=>by rw[<-zip_map];rfl
 simp only[Ze,eh,cU,bg,ak,mR,gX,aQ,ah,ar,ca,cG,bX,ej,aC,dm,Cz,ad,dX,y7,hL,opsV,hrg,my,NV.at];intro o ho;refine⟨λm v1 sb aa=>∃l done c,v1=co k/\sb=.it o/\aa.iter o=some (l.map yl,c)/\m=l.length/\(done++l).Perm opsL/\∀p∈done,∀q∈p.2,q.2≠k,⟨6,opsL,[],none,rfl,rfl,d8,rfl,.refl _,d8⟩,?_⟩;rintro m v1 sb aa ⟨l,done,c,rfl,rfl,hit,rfl,hp,hd⟩;refine Iv hit (λhl=>?_) (λa l' Jp=>?_)
 . subst hl;simp only[bN,eR,eP,ad,aG];have aio:∀p∈opsL,∀q∈p.2,q.2≠k:=λp Ms=>hd p (by have:=hp.mem_iff (a:=p);simp at this;exact this.2 Ms);have pc:=RX aio;simp (contextual:=true) [-Int.not_le,-Int.not_lt,rO,qu,bp]
   repeat' (first|refine And.intro ?_ ?_|intro _)
   all_goals (refine aq.eq (hR _) ?_;rw[pc];simp only[AV.int.injEq,true_and])
   all_goals grind
 . simp only[bN,eR,eP,ad,aL];have he:o9 (.it o) (aa.set o (.iter (l'.map yl) (some (yl a))))=.val (.az [(yl a).1,(yl a).2]):=by simp[o9]
   have e2:(yl a).2=.iK (a.2.map λq=>(lB q).1) (a.2.map λq=>(lB q).2):=rfl;simp only[he,ad,bN,eR,List.drop_succ_cons,eP];rw[e2,aa5];simp only[my,NV.at];intro o2 ho2;have cD:o≠o2:=RO (x:=(l'.map yl,some (yl a))) ho2 d8;refine⟨λm v1 v5 sb v20 aa=>∃l2 mB c2 c,v1=co k/\v5=bv a.1/\sb=.it o/\v20=.it o2/\aa.iter o2=some (l2.map lB,c2)/\aa.iter o=some (l'.map yl,c)/\m=l2.length/\(mB++l2).Perm a.2/\∀q∈mB,q.2≠k,⟨a.2.length,a.2,[],none,some (yl a),rfl,rfl,rfl,rfl,d8,by simp[cD],rfl,.refl _,d8⟩,?_⟩;rintro m v1 v5 sb v20 aV ⟨l2,mB,c2,c3,rfl,rfl,rfl,rfl,ajH,agE,rfl,tZ,tF⟩;refine Iv ajH (λhl=>?_) (λb l3 Cn=>?_)
   . subst hl;simp only[bN,eR,eP,ad,aG];have hlen:l'.length<l.length:=by rw[<-Jp.length_eq];simp
     refine⟨l'.length,hlen,l',done++[a],c3,rfl,rfl,agE,rfl,?_,?_⟩
     . rw[lG];exact (List.Perm.append_left done Jp).trans hp
     . intro p Ms q hq;rcases gV.1 Ms with h|h
       . exact hd p h q hq
       . simp only[lT]at h;subst h;exact tF q (by have:=tZ.mem_iff (a:=q);simp at this;exact this.2 hq)
   . have he2:o9 (.it o2) (aV.set o2 (.iter (l3.map lB) (some (lB b))))=.val (.az [(lB b).1,(lB b).2]):=by simp[o9]
     simp only[bN,eR,eP,ad,aL];rw[he2];simp only[bN,eR,eP,ad,List.drop_succ_cons,lB,aN,bp];have hb:b∈a.2:=tZ.mem_iff.1 (List.mem_append_right _ (Cn.mem_iff.1 d8));have ha:a∈opsL:=hp.mem_iff.1 (List.mem_append_right _ (Jp.mem_iff.1 d8));refine⟨λhk=>?_,λhk=>?_⟩
     . refine aq.eq (hR _) ?_;rw[<-hk,UM a ha b hb]
     . have hlen:l3.length<l2.length:=by rw[<-Cn.length_eq];simp
       refine⟨l3.length,hlen,l3,mB++[b],some (lB b),c3,rfl,rfl,rfl,rfl,by simp[lB],by simp[cD,agE],rfl,?_,?_⟩
       . rw[lG];exact (List.Perm.append_left mB Cn).trans tZ
       . intro q hq;rcases gV.1 hq with h|h
         . exact tF q h
         . simp only[lT]at h;subst h;exact hk
def RY{L:List AV}(h2:L[2]?=some opsV)(hc:cW L)(k:Int):Pure K 236 [.dJ L,co k] (bv (ue k)) :=
 Pure.Ew S5 (by simp[cW,closed,hc]) rfl 1 (RW h2 k _ _ λaa=>⟨_,rfl,rfl⟩)
def zA:∀(l:List AV),cW (l.map λ_=>AV.any)
 | []=>rfl
 | x::l=>by simp[cW,closed,zA l]
def Dq{b:Nat}{x y:AV}{l:List AV}{k:Int}{U:St}{R:bi}(hb:U.box b=some (x::y::opsV::l))(hR:R (.ret (bv (ue k))) U):ag K 236 [.box b 0,co k] U R:=by
 refine ag.IH 5 S5 (args0:=[.dJ (.any::.any::opsV::l.map λ_=>.any),co k]) (λg vs h=>?_) ?_ rfl (RY rfl ?_ k) hR
 . have e:([.box b 0,co k]:List AV).map (resolve 5 U)=[.dJ (resolve 4 U x::resolve 4 U y::opsV::l.map (resolve 4 U)),co k]:=by
    simp only[fh,mq,resolve,hb,eR];rfl
   rw[e]at h;refine Wk.dJ (.drop _ (.drop _ (.bq _ ?_))) h;have:=Wk.any (l.map (resolve 4 U));rw[List.map_map]at this;exact this
 . simp only[cW,closed,zA,Bool.and_true,Bool.true_and];decide +kernel
 . simp only[cW,closed,zA,Bool.and_true,Bool.true_and];decide +kernel
def SJ(f:Nat)(args:List AV)(e:ES):Option (AV×ES):=match args with
 | [.box b 0,co k]=>cond (Nat.beq f 236) (match (cj e).box b with|some (_::_::m::_)=>cond (lP m opsV) (some (bv (ue k),e)) none|_=>none) none
 | _=>acB f args e
def nu{b:Bool}{x:Option α}{y:α}(h:cond b x none=some y):b/\x=some y:=by
 cases b with
 | true=>exact⟨rfl,h⟩
 | false=>cases h
def acC:∀f args x,SK f args=some x->Pure K f args x:=by
 intro f args x h;unfold SK at h;split at h
 . obtain⟨h1,h2⟩:=nu h;simp only[cS,dU]at h1;obtain⟨h3,h4,h5⟩:=h1;have:=gN h3;subst this;cases h2;rename_i s c;have e:=AG s c;rw[wD]at e;have e2:(c.toNat.toUInt8).toNat=c.toNat:=by simp[Nat.toUInt8];omega
   rw[e2]at e;exact e
 . obtain⟨h1,h2⟩:=nu h;have:=gN h1;subst this;cases h2;rename_i s c;have e:=AH s c;rw[wD]at e;exact e
 . obtain⟨h1,h2⟩:=nu h;simp only[cS,dU]at h1;obtain⟨h3,h4,h5⟩:=h1;have:=gN h3;subst this;cases h2;rename_i n;have e:=JP n d6 d6;have e2:Lib.itoa n=LF 8 n.toNat:=by
    rw[Ps 7 n.toNat d6];unfold Lib.itoa;rw[if_neg d6]
   rw[e2]at e;exact e
 . cases h
def afz:∀f args e x e',acB f args e=some (x,e')->∀R,R (.ret x) (cj e')->ag K f args (cj e) R:=by
 intro f args e x e' h R hR;unfold acB at h;split at h
 . rename_i b;cases h1:Nat.beq f 190 with
   | true =>
     have:=gN h1;subst this;rw[h1,cond_true]at h;split at h
     . rename_i t y hb;obtain⟨h2,h3⟩:=nu h;have:=gN h2;subst this;cases h3;refine yM (y:=y) hb ?_;rw[pR]at hR;exact hR
     . rename_i b' rest hb;obtain⟨h2,h3⟩:=nu h;have:=gN h2;subst this;cases h3;exact uQ (rest:=rest) (by show (match (cj e).live b' with|some (.box l)=>some l|some (.wV _ l)=>some l|_=>none)=_;rw[show (cj e).live b'=e.live.get b' from rfl,hb]) hR
     . cases h
   | false =>
     rw[h1,cond_false]at h;obtain⟨h2,h3⟩:=nu h;have:=gN h2;subst this;split at h3
     . rename_i a n τ l hb;split at h3
       . rename_i c bs m GR ht;obtain⟨h4,h5⟩:=nu h3;simp only[cS]at h4;have e1:=gN h4.1;have e2:=gN h4.2;subst e1;cases h5;have e3:=Gx GR;refine Ad (a:=a) (l:=c::bs) (τ:=τ) d8 (by rw[hb,e3,e2];rfl) (by rw[ht,e2];rfl) ?_;rw[Gb]at hR;exact hR
       . cases h3
     . rename_i a hb;cases h3;exact vX (a:=a) hb hR
     . cases h3
 . cases h
def QC:∀f args e x e',SJ f args e=some (x,e')->∀R,R (.ret x) (cj e')->ag K f args (cj e) R:=by
 intro f args e x e' h R hR;unfold SJ at h;split at h
 . obtain⟨h1,h2⟩:=nu h;have:=gN h1;subst this;split at h2
   . rename_i m l hb;obtain⟨h3,h4⟩:=nu h2;have:=Ag h3;subst this;cases h4;exact Dq hb hR
   . cases h2
 . exact afz f args e x e' h R hR
def smV(f:Nat)(args:List AV):Option AV:=match args with
 | []=>cond (Nat.beq f 153) (some HS) (cond (Nat.beq f 96) (some DD) (cond (Nat.beq f 97) (some uR) (cond (Nat.beq f 130) (some sD) none)))
 | _=>SK f args
def aho:∀f args x,smV f args=some x->Pure K f args x:=by
 intro f args x h;unfold smV at h;split at h
 . cases h1:Nat.beq f 153 with
   | true=>rw[h1]at h;have:=gN h1;subst this;cases h;exact HU
   | false =>
     rw[h1,cond_false]at h;cases h1:Nat.beq f 96 with
     | true=>rw[h1]at h;have:=gN h1;subst this;cases h;exact FY
     | false =>
       rw[h1,cond_false]at h;cases h1:Nat.beq f 97 with
       | true=>rw[h1]at h;have:=gN h1;subst this;cases h;exact ET
       | false =>
         rw[h1,cond_false]at h;obtain⟨h1,h2⟩:=nu h;have:=gN h1;subst this;cases h2;exact GJ
 . exact acC f args x h
def pfV(f:Nat):Bool:=Nat.beq f 153||(Nat.beq f 96||(Nat.beq f 97||(Nat.beq f 130||(Nat.beq f 214||(Nat.beq f 243||Nat.beq f 257)))))
noncomputable def V2:kV:=⟨K,mu0,pfV,smV,SJ,λf=>Nat.beq f 54,136,λ_ _=>none⟩
def QT:uL V2:=⟨aho,QC,λf h=>by have:=gN h;subst this;exact Gf,Lg⟩
end Go.Rip
