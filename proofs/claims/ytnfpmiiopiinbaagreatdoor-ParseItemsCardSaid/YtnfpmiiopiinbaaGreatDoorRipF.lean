/- Lemmas for the proof: no conditions. -/
import Derived.Test.YtnfpmiiopiinbaaGreatDoorRipZz
import Derived.Test.YtnfpmiiopiinbaaGreatDoorRipD
set_option linter.unusedVariables false
set_option linter.unusedSimpArgs false
set_option linter.loopingSimpArgs false
set_option maxRecDepth 100000
namespace Go.Rip
open Go.Proofs
def aaC:An:=aj (aj .z)
def aaD:An:=aj (aj (bf (.bk (aj (.cd (aj .z) (aj (.cd (aj .z) .z))))) (bf (aj (aj (.cd (aj (aj .z)) .z))) (aj .z))))
def aaE:An:=aj (aj .z)
def aaF:An:=aj (bf (aj (.cd (bf (.rg [] [] (some ⟨[(true,0),(true,1),(true,2),(false,3),(true,4)],[⟨524288,4,0⟩,⟨1048576,0,0⟩,⟨2097152,1572864,3⟩,⟨4194304,2097152,4⟩,⟨64,4194304,15⟩]⟩)) (aj (aj .z))) .z)) (aj (bf (aj (.bk (.rf cu (.bk (aj (bf (aj (.cd (aj .z) .z)) cu)))))) (bf (aj (.cd (aj .z) .z)) (aj .z)))))
def aaG:An:=aj (bf (bf (.rg [] [] (some ⟨[(true,0),(true,1),(true,2),(true,3),(true,4),(true,5),(true,6),(true,7),(true,8),(true,9),(true,10),(true,11),(true,12),(true,13),(true,14),(true,15),(true,16),(true,17),(true,18),(true,19),(true,20),(true,21),(true,22),(true,23),(true,24),(true,25),(true,26)],[⟨32,2,0⟩,⟨64,32,1⟩,⟨128,64,2⟩,⟨256,128,4⟩,⟨512,256,8⟩,⟨1024,512,16⟩,⟨2048,1026,32⟩,⟨4096,3072,96⟩,⟨8192,5120,160⟩,⟨16384,9216,288⟩,⟨32768,17408,544⟩,⟨65536,33792,1056⟩,⟨131072,66560,2080⟩,⟨262144,132096,4128⟩,⟨524288,262144,8224⟩,⟨1048576,524290,16384⟩,⟨2097152,1572864,49152⟩,⟨4194304,2621440,81920⟩,⟨8388608,4718592,147456⟩,⟨16777216,8912896,278528⟩,⟨33554432,17301504,540672⟩,⟨67108864,524290,16384⟩,⟨134217728,67633152,2113536⟩,⟨268435456,134742016,4210688⟩,⟨536870912,268959744,8404992⟩,⟨1073741824,570949632,17842176⟩,⟨2147483648,1074266112,33570816⟩]⟩)) (.cd (aj .z) .z)) (aj (bf (aj (.bk (.lp [1,3,36,37] (aj (bf (.cd .z .z) (bf (.bk (aj (aj (.cd (aj .z) .z)))) cu)))))) (aj .z))))
def aaH:An:=bf (.rg [1,2] [] none) (bf (.rg [3] [] none) (bf (bf (.rg [7,8,9,10] [] none) (.bk (.lp [1,2,3,8,9,10] (bf (.rg [11] [] none) (bf (.cd .z .z) (bf (.bk (bf (.rg [4,5,12,13,14] [] none) (bf (.rg [3,15,16,17] [] none) (bf (bf (.rg [18,19,20] [] none) (.cd (bf (.rg [2] [] none) .z) .z)) (.rg [3,21,22,23,24,25,26,27] [] none))))) (.rg [10,28] [] none))))))) (bf (.rg [6] [] none) (bf (bf (.rg [29,30,31] [] none) (.bk (.rf .z (.bk (.rg [33,34] [] none))))) (bf (.rg [2,35,36] [] none) .z)))))
def aaI:An:=aj (bf (aj (.cd (aj .z) .z)) (bf (aj (.bk (.lp [0,9,10] (aj (bf (.cd .z .z) (bf (.bk (aj (aj (.cd (aj .z) .z)))) cu)))))) (aj .z)))
def aaJ:An:=aj (aj .z)
def aaK:An:=aj (aj .z)
def aaL:An:=aj (aj (bf (.bk (aj (.cd (aj .z) (aj (.cd (aj .z) (aj (.cd (aj .z) (aj (.cd (aj .z) (aj (.cd (aj .z) .z))))))))))) (aj .z)))
def aaM:An:=aj (aj (bf (.bk (aj (.cd (aj .z) (aj (.cd (aj .z) .z))))) (bf (aj (aj (.cd (aj (aj .z)) .z))) (aj .z))))
def aaN:An:=aj (aj .z)
def aaO:An:=aj (aj .z)
def aaP:An:=aj (bf (.rg [] [] (some ⟨[(true,0),(true,1),(true,2),(true,3),(true,4),(true,5),(true,6),(true,7),(true,8),(false,9),(false,10)],[⟨64,8,0⟩,⟨128,4,0⟩,⟨256,128,2⟩,⟨512,256,4⟩,⟨1024,8,0⟩,⟨2048,1536,24⟩,⟨4096,2048,32⟩,⟨8192,4096,64⟩,⟨16384,8256,129⟩,⟨32,0,0⟩,⟨0,16416,1023⟩]⟩)) (aj .z))
def aaQ:An:=aj (aj (bf (.bk (aj (.cd (aj .z) (aj (.cd (aj .z) .z))))) (bf (aj (aj (.cd (aj (aj .z)) .z))) (aj .z))))
def aaR:An:=aj (bf (aj (.bk (.rf cu (.bk (bf (.rg [] [] (some ⟨[(true,0),(true,1),(true,2),(true,3),(true,4),(true,5),(true,6),(true,7),(true,8)],[⟨512,4,0⟩,⟨1024,512,1⟩,⟨2048,1024,2⟩,⟨4096,32,0⟩,⟨8192,6144,12⟩,⟨16384,8192,16⟩,⟨32768,16384,32⟩,⟨65536,2,0⟩,⟨131072,98304,192⟩]⟩)) (.cd (aj .z) .z)))))) (aj .z))
def aaS:An:=aj (bf (aj (.cd (aj .z) .z)) (bf (aj (.bk (.lp [8,9,10] (aj (bf (.cd .z .z) (bf (.bk (aj (aj (.cd (aj .z) .z)))) cu)))))) (aj .z)))
def aaT:An:=aj (aj .z)
def VQ:An:=aj (bf (aj (.cd (aj .z) .z)) (aj (aj .z)))
def VR:An:=aj (aj .z)
def VS:An:=aj (.cd cu .z)
def VT:An:=aj (aj (aj .z))
def VU:An:=aj (aj .z)
def VV:An:=aj (.bk (.lp [0,1,2] (bf (aj (.cd .z .z)) (.bk cu))))
def VW:An:=aj (aj (aj (aj (.sq (some [3,4]) (.bk (.lp [0,3,4] (bf (aj (.cd .z .z)) (.bk (bf (aj (bf (.rg [] [61] none) (.cd .z .z))) (aj cu)))))) (bf (aj (.cd (aj .z) .z)) (aj .z))))))
def VX:An:=aj (bf (.rg [] [178] none) .z)
def VY:An:=aj (aj .z)
def VZ:An:=aj (aj (bf (aj (.bk (.rf cu (.bk cu)))) (.bk (aj (.cd cu (aj (.cd cu (aj (.cd cu (aj (.cd cu (aj (.cd cu cu)))))))))))))
def V4:An:=aj (bf (aj (aj (.cd (aj .z) .z))) (aj (bf (aj (.bk (.lp [0,5,13,14,15] (aj (bf (.cd .z .z) (bf (.bk (aj (.sq (some [0,5,7,13,14,15]) (bf (.rg [] [] (some ⟨[(true,0),(true,1),(true,2),(true,3),(true,4),(true,5),(true,6),(true,7),(true,8),(true,9),(true,10)],[⟨1048576,64,0⟩,⟨2097152,1048576,1⟩,⟨4194304,2097152,2⟩,⟨8388608,4194305,4⟩,⟨16777216,4194368,4⟩,⟨33554432,20971520,20⟩,⟨67108864,46137344,44⟩,⟨134217728,71303168,68⟩,⟨268435456,4194432,4⟩,⟨536870912,406847488,388⟩,⟨1073741824,541065216,516⟩]⟩)) (.cd cu .z)) cu))) cu)))))) (bf (aj (.cd (aj .z) .z)) (aj .z)))))
def V5:An:=aj (aj (aj (aj .z)))
def V6:An:=aj (aj .z)
def V7:An:=aj (aj (aj (bf (bf (.rg [] [122,208] none) (.cd (aj .z) .z)) (bf (bf (.rg [] [122] none) (.cd (aj .z) .z)) (aj (aj (bf (aj (.bk (.rf cu (.bk (bf (.rg [] [] (some ⟨[(true,0),(true,1),(true,2),(true,3),(true,4),(true,5),(true,6),(true,7),(true,8),(false,9),(false,10)],[⟨19807040628566084398385987584,1024,0⟩,⟨39614081257132168796771975168,8,0⟩,⟨79228162514264337593543950336,39614081257132168796771975168,2⟩,⟨158456325028528675187087900672,79228162514264337593543950336,4⟩,⟨316912650057057350374175801344,4096,0⟩,⟨633825300114114700748351602688,475368975085586025561263702016,24⟩,⟨1267650600228229401496703205376,633825300114114700748351602688,32⟩,⟨2535301200456458802993406410752,1267650600228229401496703205376,64⟩,⟨5070602400912917605986812821504,2535301200456458802993406410752,128⟩,⟨10141204801825835211973625643008,5090409441541483690385198809088,257⟩,⟨0,10141204801825835211973625644032,1023⟩]⟩)) (bf (bf (.rg [] [] (some ⟨[(true,0),(true,1),(true,2),(true,3),(true,4),(true,5),(true,6),(true,7),(true,8),(true,9),(true,10),(true,11),(true,12),(true,13),(true,14)],[⟨20282409603651670423947251286016,16,0⟩,⟨40564819207303340847894502572032,128,0⟩,⟨81129638414606681695789005144064,40564819207303340847894502572032,2⟩,⟨162259276829213363391578010288128,101412048018258352119736256430080,5⟩,⟨324518553658426726783156020576256,4096,0⟩,⟨649037107316853453566312041152512,486777830487640090174734030864384,24⟩,⟨1298074214633706907132624082305024,8,0⟩,⟨2596148429267413814265248164610048,1298074214633706907132624082305024,64⟩,⟨5192296858534827628530496329220096,2596148429267413814265248164610048,128⟩,⟨10384593717069655257060992658440192,4096,0⟩,⟨20769187434139310514121985316880384,15576890575604482885591488987660288,768⟩,⟨41538374868278621028243970633760768,20769187434139310514121985316880384,1024⟩,⟨83076749736557242056487941267521536,41538374868278621028243970633760768,2048⟩,⟨166153499473114484112975882535043072,83725786843874095510054253308674048,4128⟩,⟨332306998946228968225951765070086144,166153499473114484112975882535043072,8192⟩]⟩)) (.cd (aj .z) .z)) cu)))))) (aj .z))))))))
def V8:An:=aj (aj (bf (aj (.cd (aj .z) .z)) (bf (aj (.bk (.lp [0,1,5,6] (bf (aj (.cd .z .z)) (.sq (some [0,1,5,6]) (.bk (aj (aj (.cd (aj cu) .z)))) cu))))) (aj (aj .z)))))
def V9:An:=aj (aj .z)
def Wa:An:=aj (aj .z)
def Wb:An:=aj (.bk (.lp [0,1,2,4] (bf (aj (.cd .z .z)) (.bk (aj (.bk (.sq (some [0,1,2,4,14,24]) (aj (.cd .z cu)) (.cd cu (aj (.cd (aj (bf (aj (.cd .z .z)) cu)) (bf (aj (.cd .z .z)) cu)))))))))))
def Wc:An:=aj (aj .z)
def Wd:An:=aj (bf (.bk (.lp [0,2] (bf (bf (.rg [] [151] none) (.cd .z .z)) (.bk cu)))) (aj .z))
def We:An:=aj (bf (aj (.bk (.lp [0,2,6,7] (aj (bf (.cd .z .z) (bf (.bk (aj (aj (.cd (aj .z) .z)))) cu)))))) (bf (bf (.rg [] [214] none) (.cd (aj .z) .z)) (aj .z)))
def Wf:An:=aj (aj .z)
def Wg:An:=aj (aj (bf (aj (.bk (.lp [0,3,6,7] (aj (bf (.cd .z .z) (bf (.bk (aj (bf (aj (.cd (aj .z) .z)) cu))) cu)))))) (bf (.bk (aj (.cd (aj .z) (aj (.cd (aj .z) .z))))) (aj .z))))
def aax:An:=aj (bf (.bk (aj (.cd (aj .z) (aj (.cd (aj .z) (aj (.cd (aj .z) .z))))))) (aj .z))
def aay:An:=aj (bf (aj (aj (.cd (aj .z) .z))) (aj (aj (bf (aj (.bk (.rf (aj cu) (.bk (bf (aj (.cd .z .z)) (aj (.sq (some [2,3,4,7,9,11,12]) (aj (.cd cu .z)) (bf (aj (.cd (aj .z) .z)) (aj cu))))))))) (aj .z)))))
def aaz:An:=aj (aj .z)
def aaA:An:=aj (aj .z)
def aaB:An:=aj (bf (aj (.cd (aj .z) .z)) (bf (aj (.bk (.lp [0,3] (bf (aj (.cd .z .z)) (bf (.bk (aj (.cd (aj .z) .z))) cu))))) (aj .z)))
def acD:An:=aj (bf (.sq (some [1,21]) cu (.cd (aj .z) .z)) (aj (bf (aj (.cd (aj .z) .z)) (aj (aj (bf (aj (.bk (.lp [1,3,5,6,7,8] (bf (aj (.cd .z .z)) (bf (.bk (bf (bf (.rg [] [] (some ⟨[(true,0),(true,1),(true,2),(true,3),(true,4),(true,5),(true,6),(true,7),(true,8),(true,9),(true,10),(true,11),(true,12),(true,13),(true,14)],[⟨8796093022208,8,0⟩,⟨17592186044416,256,0⟩,⟨35184372088832,26388279066624,3⟩,⟨70368744177664,35184372088832,4⟩,⟨140737488355328,70368744177664,8⟩,⟨281474976710656,140737488355328,16⟩,⟨562949953421312,281474976710664,32⟩,⟨1125899906842624,281474976710912,32⟩,⟨2251799813685248,1970324836974592,224⟩,⟨4503599627370496,2533274790395904,288⟩,⟨9007199254740992,281474976710658,32⟩,⟨18014398509481984,9288674231451648,1056⟩,⟨36028797018963968,18295873486192640,2080⟩,⟨72057594037927936,40813871623045120,4640⟩,⟨144115188075855872,72339069014638592,8224⟩]⟩)) (.cd (aj .z) .z)) (bf (.rg [] [] (some ⟨[(true,0),(true,2),(true,3),(true,4),(true,5),(true,6),(true,7),(true,8),(true,9),(true,10),(false,1),(false,11),(true,12),(true,13),(true,14),(true,15),(true,16)],[⟨576460752303423488,2,0⟩,⟨1152921504606846976,576460752303423488,1⟩,⟨2305843009213693952,2,0⟩,⟨4611686018427387904,2305843009213693952,4⟩,⟨9223372036854775808,8,0⟩,⟨18446744073709551616,256,0⟩,⟨36893488147419103232,27670116110564327424,48⟩,⟨73786976294838206464,36893488147419103232,64⟩,⟨147573952589676412928,78398662313265594368,136⟩,⟨295147905179352825856,147573952589676412928,256⟩,⟨590295810358705651712,295147905179352825856,512⟩,⟨1180591620717411303424,591448731863312498688,1026⟩,⟨288230376151711744,1180591620717411303424,2048⟩,⟨2361183241434822606848,288230376151711744,4096⟩,⟨4722366482869645213696,288230376151711744,4096⟩,⟨512,2361183241434822606848,16383⟩,⟨1024,4722366482869645213696,65535⟩]⟩)) (bf (bf (.rg [] [] (some ⟨[(true,0),(true,1),(true,2),(true,3),(true,4),(true,5),(true,6),(true,7),(true,8),(true,9),(true,10),(true,11),(true,12),(true,13),(true,14),(true,15),(true,16),(true,17),(true,18),(true,19),(true,20),(true,21),(true,22),(true,23),(true,24),(true,25),(true,26),(true,27),(true,28),(true,29),(true,30),(true,31)],[⟨9444732965739290427392,1024,0⟩,⟨18889465931478580854784,9444732965739290427392,1⟩,⟨37778931862957161709568,18889465931478580854784,2⟩,⟨75557863725914323419136,37778931862957161710080,4⟩,⟨151115727451828646838272,37778931862957161709576,4⟩,⟨302231454903657293676544,37778931862957161709824,4⟩,⟨604462909807314587353088,491126114218443102224384,52⟩,⟨1208925819614629174706176,642241841670271749062656,68⟩,⟨2417851639229258349412352,1322262615203500659834880,140⟩,⟨4835703278458516698824704,2455630571092215511121920,260⟩,⟨9671406556917033397649408,4835703278458516698824704,516⟩,⟨19342813113834066795298816,9671406556917033397649920,1024⟩,⟨38685626227668133590597632,29014219670751100192948224,3072⟩,⟨77371252455336267181195264,48357032784585166988247040,5120⟩,⟨154742504910672534362390528,77371252455336267181195264,9216⟩,⟨309485009821345068724781056,154742504910672534362390530,16384⟩,⟨618970019642690137449562112,464227514732017603087171584,49152⟩,⟨1237940039285380274899124224,154742504910672534362391040,16384⟩,⟨2475880078570760549798248448,2011652563838742946711076864,212992⟩,⟨4951760157141521099596496896,2630622583481433084160638976,278528⟩,⟨9903520314283042199192993792,5106502662052193633958887424,540672⟩,⟨19807040628566084398385987584,154742504910672534362390530,16384⟩,⟨39614081257132168796771975168,19961783133476756932748378112,2113536⟩,⟨79228162514264337593543950336,154742504910672534362390536,16384⟩,⟨158456325028528675187087900672,154742504910672534362390784,16384⟩,⟨316912650057057350374175801344,237839230047703685314994241536,25182208⟩,⟨633825300114114700748351602688,317067392561968022908538191872,33570816⟩,⟨1267650600228229401496703205376,673594123876157542079485968384,71319552⟩,⟨2535301200456458802993406410752,1267805342733140074031065595904,134234112⟩,⟨5070602400912917605986812821504,2535455942961369475527768801280,268451840⟩,⟨10141204801825835211973625643008,5080660663732111320720368205824,537935872⟩,⟨20282409603651670423947251286016,10141359544330745884507988033536,1073758208⟩]⟩)) (.cd (aj .z) .z)) (bf (.rg [] [] (some ⟨[(true,0),(true,2),(true,3),(true,4),(true,5),(false,1),(false,6),(true,7),(true,8),(true,9),(true,10),(true,11)],[⟨81129638414606681695789005144064,2,0⟩,⟨162259276829213363391578010288128,81129638414606681695789005144064,1⟩,⟨324518553658426726783156020576256,8,0⟩,⟨649037107316853453566312041152512,256,0⟩,⟨1298074214633706907132624082305024,973555660975280180349468061728768,12⟩,⟨2596148429267413814265248164610048,1298074214633706907132624082305024,16⟩,⟨5192296858534827628530496329220096,2758407706096627177656826174898176,34⟩,⟨40564819207303340847894502572032,5192296858534827628530496329220096,64⟩,⟨10384593717069655257060992658440192,40564819207303340847894502572032,128⟩,⟨20769187434139310514121985316880384,40564819207303340847894502572032,128⟩,⟨2048,10384593717069655257060992658440192,511⟩,⟨4096,20769187434139310514121985316880384,2047⟩]⟩)) (bf (aj (.cd (bf (.rg [] [17] none) .z) .z)) cu)))))) cu))))) (bf (.rg [] [17] none) .z)))))))
def aat:An:=aj (aj .z)
def aau:An:=aj (aj .z)
def aav:An:=bf (.rg [1,2] [] none) (bf (.rg [3,4,5,6] [] none) .z)
def aaw:An:=aj (aj .z)
section
variable (a0 a1 a2 a3 a4 a5 a6:AV) (R:cA->St->Prop) (U:St)
def TK:Prop :=
 (dT a0).wp K U (fun v1 U =>
 (ah (some (true,3)) v1 U).wp K U (fun v3 U =>
 (aq (some (9,1)) (some [.str []]) 3 false [(0,(.str eS)),(1,(.str j0)),(2,(.str gz))]).wp K U (fun v4 U =>
 ae K 121 [v3,v4] U (ag (fun v5 U =>
 ak R v5 U) (aa R))) (aa R)) (aa R)) (aa R)
def TL:Prop :=
 (dT a0).wp K U (fun v3 U =>
 (ah (some (true,1)) v3 U).wp K U (fun v9 U =>
 ae K 30 [v9] U (ag (fun v10 U =>
 (ar .neq aM true v10 (.int .i64 0)).wp K U (fun cb U =>
 av cb (
 ak R (.aF [(.str w_),v10]) U) (
 (af (some 0) v3).wp K U (fun cZ U =>
 (ah aA cZ U).wp K U (fun cm U =>
 (cj (some false) cm).wp K U (fun cL U =>
 (ar .sub aM true cL (.int .i64 1)).wp K U (fun v20 U =>
 ae K 122 [(.int .i64 0),v20,a1] U (ag (fun dS U =>
 (jC .not dS).wp K U (fun dZ U =>
 av dZ (
 ak R (.aF [(.str w_),(.int .i64 3)]) U) (
 (ah (some (true,1)) v3 U).wp K U (fun dK U =>
 (eh (some [(0,1)]) (some [.aw]) none [(0,dK)]).wp K U (fun v28 U =>
 (gr K.P a2 [v28]).wp K U (fun dE U =>
 (aR dE 0).wp K U (fun v30 U =>
 (aR dE 1).wp K U (fun v31 U =>
 (ar .neq aM true v31 (.int .i64 0)).wp K U (fun eR U =>
 av eR (
 ak R (.aF [(.str w_),v31]) U) (
 ak R (.aF [v30,(.int .i64 0)]) U)) (aa R)) (aa R)) (aa R)) (aa R)) (aa R)) (aa R))) (aa R)) (aa R))) (aa R)) (aa R)) (aa R)) (aa R))) (aa R)) (aa R))) (aa R)) (aa R)
def TM:Prop :=
 (dT a0).wp K U (fun v2 U =>
 (ah (some (true,1)) v2 U).wp K U (fun v5 U =>
 (ah aA a1 U).wp K U (fun v6 U =>
 ae K 64 [v5,v6] U (ag (fun v7 U =>
 (aR v7 0).wp K U (fun v8 U =>
 (aR v7 1).wp K U (fun v9 U =>
 ak R (.aF [v8,v9]) U) (aa R)) (aa R)) (aa R))) (aa R)) (aa R)) (aa R)
def KP:Prop :=
 (dT a0).wp K U (fun v2 U =>
 (aD.cP [.str []]).wp K U (fun v4 U =>
 (aD.cP [.int .i64 0]).wp K U (fun v5 U =>
 (af (some 0) v2).wp K U (fun v11 U =>
 (af (some 0) v11).wp K U (fun v12 U =>
 (ah aA v12 U).wp K U (fun cb U =>
 (aG (some (43,6)) none cb a1).wp K U (fun bM U =>
 (af (some 0) bM).wp K U (fun dc U =>
 (ah aA dc U).wp K U (fun cZ U =>
 (ar .neq aM true cZ (.int .u8 1)).wp K U (fun cm U =>
 av cm (
 (fun ao:St =>
 ax K (ah (some (true,1)) v2 ao) (fun cL =>
 ax K (aD.enter 96 []) (fun v20 =>
 ax K (eh (some [(0,1),(1,1),(2,1)]) (some [.aw,.aw,.jq]) none [(0,cL),(2,v20)]) (fun v21 =>
 (dT v21).wp K U (fun dS U=>cg ((cM v2++[])++[]) ao U /\
 ae K 123 [dS,a1] U (ag (fun eL U =>
 (aY dS).wp K U (fun dK U =>
 (af (some 1) dK).wp K U (fun v28 U =>
 (ah aA v28 U).wp K U (fun dE U =>
 ae K 124 [dE] U (ag (fun v30 U =>
 (aR v30 0).wp K U (fun v31 U =>
 (aR v30 1).wp K U (fun eU U =>
 (aJ aA v4 v31 U).wp K U (fun _ U =>
 (aJ aA v5 eU U).wp K U (fun _ U =>
 br aA v4 U fun r0 =>
 br aA v5 U fun r1 =>
 ak R (.aF [r0,r1]) U) (aa R)) (aa R)) (aa R)) (aa R)) (aa R))) (aa R)) (aa R)) (aa R)) (aa R))) (aa R))))) U) (
 (aD.new .box none (.ri 158 [.aV,.aw])).wp K U (fun v7 U =>
 (ah (some (true,1)) v2 U).wp K U (fun eR U =>
 ae K 81 [eR,a1] U (ag (fun gy U =>
 nq K 1 gy U (fun gp q U =>
 q.xU (fun U =>
 (ah (some (true,1)) v2 U).wp K U (fun iv U =>
 ae K 64 [iv,gp] U (ag (fun v40 U =>
 (aR v40 0).wp K U (fun jE U =>
 (aR v40 1).wp K U (fun jF U =>
 (ar .neq aM true jF (.int .i64 0)).wp K U (fun mb U =>
 av mb (
 (aJ aA v4 (.str w_) U).wp K U (fun _ U =>
 (aJ aA v5 jF U).wp K U (fun _ U =>
 q.r U) (fun _ _=>False)) (fun _ _=>False)) (
 (ar .add aM true jE (.str lR)).wp K U (fun jt U =>
 ae K 125 [v7,jt] U (ag (fun sJ U =>
 q.n U) (fun _ _=>False))) (fun _ _=>False))) (fun _ _=>False)) (fun _ _=>False)) (fun _ _=>False)) (fun _ _=>False))) (fun _ _=>False)) U) (fun U =>
 ae K 126 [v7] U (ag (fun v49 U =>
 (ar .gtr aM true v49 (.int .i64 2500)).wp K U (fun ig U =>
 av ig (
 (aJ aA v4 (.str w_) U).wp K U (fun _ U =>
 (aJ aA v5 (.int .i64 5) U).wp K U (fun _ U =>
 br aA v4 U fun oR =>
 br aA v5 U fun Ag =>
 ak R (.aF [oR,Ag]) U) (aa R)) (aa R)) (
 ae K 127 [v7] U (ag (fun v51 U =>
 (aJ aA v4 v51 U).wp K U (fun _ U =>
 (aJ aA v5 (.int .i64 0) U).wp K U (fun _ U =>
 br aA v4 U fun qg =>
 br aA v5 U fun Ah =>
 ak R (.aF [qg,Ah]) U) (aa R)) (aa R)) (aa R)))) (aa R)) (aa R))) (fun i U =>
 AM (Nat.beq i 0) (
 ae K 126 [v7] U (ag (fun La U =>
 (ar .gtr aM true La (.int .i64 2500)).wp K U (fun yW U =>
 av yW (
 (aJ aA v4 (.str w_) U).wp K U (fun _ U =>
 (aJ aA v5 (.int .i64 5) U).wp K U (fun _ U =>
 br aA v4 U fun Af =>
 br aA v5 U fun RD =>
 ak R (.aF [Af,RD]) U) (aa R)) (aa R)) (
 ae K 127 [v7] U (ag (fun ab2 U =>
 (aJ aA v4 ab2 U).wp K U (fun _ U =>
 (aJ aA v5 (.int .i64 0) U).wp K U (fun _ U =>
 br aA v4 U fun GD =>
 br aA v5 U fun adO =>
 ak R (.aF [GD,adO]) U) (aa R)) (aa R)) (aa R)))) (aa R)) (aa R))) (
 False)) (fun U =>
 br aA v4 U fun GF =>
 br aA v5 U fun adP =>
 ak R (.aF [GF,adP]) U) (fun x U=>(aa R) x U)) (aa R))) (aa R)) (aa R))) (aa R)) (aa R)) (aa R)) (aa R)) (aa R)) (aa R)) (aa R)) (aa R)) (aa R)) (aa R)
def TN:Prop :=
 (dT a0).wp K U (fun v1 U =>
 (fun ao:St =>
 ax K (af (some 0) v1) (fun v5 =>
 ax K (af (some 0) v5) (fun v6 =>
 ax K (ah aA v6 ao) (fun v7 =>
 ax K (cj (some false) v7) (fun v8 =>
 ax K (ar .eql aM true v8 (.int .i64 0)) (fun v9 =>
 ai K (aH v9 false) (af (some 0) v1) (fun v11 =>
 ai K (aH v9 false) (af (some 0) v11) (fun v12 =>
 ai K (aH v9 false) (ah aA v12 ao) (fun cb =>
 ai K (aH v9 false) (aG (some (43,6)) none cb (.int .i64 0)) (fun ct =>
 ai K (aH v9 false) (af (some 0) ct) (fun bM =>
 ai K (aH v9 false) (ah aA bM ao) (fun dc =>
 ai K (aH v9 false) (ar .neq aM true dc (.int .u8 1)) (fun cZ =>
 ax K (bp v9 (.bool true) cZ) (fun cm =>
 ai K (aH cm false) (af (some 0) v1) (fun v20 =>
 ai K (aH cm false) (af (some 0) v20) (fun v21 =>
 ai K (aH cm false) (ah aA v21 ao) (fun dS =>
 ai K (aH cm false) (aG (some (43,6)) none dS (.int .i64 0)) (fun dZ =>
 ai K (aH cm false) (af (some 5) dZ) (fun v24 =>
 ai K (aH cm false) (ah aA v24 ao) (fun eL =>
 ai K (aH cm false) (af (some 0) v1) (fun fM =>
 ai K (aH cm false) (af (some 0) fM) (fun dK =>
 ai K (aH cm false) (ah aA dK ao) (fun v28 =>
 ai K (aH cm false) (cj (some false) v28) (fun dE =>
 ai K (aH cm false) (ar .neq aM false eL dE) (fun v30 =>
 ax K (bp cm (.bool true) v30) (fun v31 =>
 av v31 (
 ak R (.bool false) U) (
 ae K 130 [] U (ag (fun eU U =>
 (af (some 0) v1).wp K U (fun eR U =>
 (af (some 0) eR).wp K U (fun gn U =>
 (ah aA gn U).wp K U (fun gy U =>
 (cj (some false) gy).wp K U (fun gp U =>
 eP 4 [v1,eU,gp,(.int .i64 0)] U fun lp jU v3 oJ v37 U =>
 (ar .lss aM false v37 oJ).wp K U (fun iv U =>
 av iv (
 (ah (some (true,1)) jU U).wp K U (fun v40 U =>
 ae K 131 [v40,v37,v3] U (ag (fun js U =>
 (jC .not js).wp K U (fun mb U =>
 av mb (
 ak R (.bool false) U) (
 (ar .add aM true v37 (.int .i64 1)).wp K U (fun mc U =>
 lp jU v3 oJ mc U) (aa R))) (aa R)) (aa R))) (aa R)) (
 ak R (.bool true) U)) (aa R)) (aa R)) (aa R)) (aa R)) (aa R)) (aa R))))))))))))))))))))))))))))) U) (aa R)
def TO:Prop :=
 (dT a0).wp K U (fun v1 U =>
 (af (some 0) v1).wp K U (fun v7 U =>
 (ah aA v7 U).wp K U (fun v8 U =>
 (cj (some false) v8).wp K U (fun v9 U =>
 eP 6 [v1,(.bool false),.aw,v8,v9,(.int .i64 0)] U fun lp jU v2 v3 nx ke v10 U =>
 (ar .lss aM false v10 ke).wp K U (fun v11 U =>
 av v11 (
 (aG (some (43,6)) none nx v10).wp K U (fun cb U =>
 (ah (some (true,6)) cb U).wp K U (fun ct U =>
 (aD.cP [.int .i64 0]).wp K U (fun v4 U =>
 (aD.cP [.int .u8 0,.str [],.int .i64 0,.int .i64 0,.int .i64 0,.int .i64 0]).wp K U (fun v5 U =>
 (aJ aA v4 v10 U).wp K U (fun _ U =>
 (aJ (some (true,6)) v5 ct U).wp K U (fun _ U =>
 ae K 132 [v3,(.func (.func 133) [] [v4])] U (ag (fun cZ U =>
 (cj (some false) cZ).wp K U (fun cL U =>
 (ar .gtr aM true cL (.int .i64 60)).wp K U (fun v20 U =>
 av v20 (
 ak R (.bool true) U) (
 (ah aA v4 U).wp K U (fun dS U =>
 (af (some 5) v5).wp K U (fun dZ U =>
 (ah aA dZ U).wp K U (fun v24 U =>
 (ar .add aM false dS v24).wp K U (fun eL U =>
 (aq (some (3,1)) (some [.int .i64 0]) 1 true [(0,eL)]).wp K U (fun fM U =>
 (ez (some (3,1)) true cZ fM U).wp K U (fun dK U =>
 (ar .add aM true v10 (.int .i64 1)).wp K U (fun v28 U =>
 lp jU v2 dK nx ke v28 U) (aa R)) (aa R)) (aa R)) (aa R)) (aa R)) (aa R)) (aa R))) (aa R)) (aa R)) (aa R))) (aa R)) (aa R)) (aa R)) (aa R)) (aa R)) (aa R)) (
 (aD.cP [.int .i64 0]).wp K U (fun v6 U =>
 (aJ aA v6 (.int .i64 0) U).wp K U (fun _ U =>
 (ah (some (true,1)) jU U).wp K U (fun dE U =>
 (eh (some [(0,1)]) (some [.aw]) none [(0,dE)]).wp K U (fun v30 U =>
 ae K 81 [v30,(.int .i64 0)] U (ag (fun v31 U =>
 nq K 1 v31 U (fun eU q U =>
 q.xU (fun U =>
 (ah aA v6 U).wp K U (fun eR U =>
 (ar .add aM true eR (.int .i64 1)).wp K U (fun gn U =>
 (aJ aA v6 gn U).wp K U (fun _ U =>
 q.n U) (fun _ _=>False)) (fun _ _=>False)) (fun _ _=>False)) U) (fun U =>
 (ah aA v6 U).wp K U (fun gy U =>
 (ar .gtr aM true gy (.int .i64 24)).wp K U (fun gp U =>
 ak R gp U) (aa R)) (aa R)) (fun i U =>
 AM (Nat.beq i 2) (
 (ah aA v6 U).wp K U (fun BX U =>
 (ar .gtr aM true BX (.int .i64 24)).wp K U (fun oJ U =>
 ak R oJ U) (aa R)) (aa R)) (
 False)) (fun U =>
 ak R v2 U) (fun x U=>(aa R) x U)) (aa R))) (aa R)) (aa R)) (aa R)) (aa R))) (aa R)) (aa R)) (aa R)) (aa R)) (aa R)
def TP:Prop :=
 (cj (some true) a0).wp K U (fun v6 U =>
 (ar .gtr aM true v6 (.int .i64 2500)).wp K U (fun v7 U =>
 av v7 (
 ak R (.aF [(.int .i64 0),(.int .i64 5)]) U) (
 (cj (some true) a0).wp K U (fun v9 U =>
 eP 3 [a0,v9,(.int .i64 0)] U fun lp v0 ke v10 U =>
 (ar .lss aM false v10 ke).wp K U (fun v11 U =>
 av v11 (
 (gj true none none v0 v10).wp K U (fun bM U =>
 ae K 146 [bM] U (ag (fun dc U =>
 (jC .not dc).wp K U (fun cZ U =>
 av cZ (
 ak R (.aF [v10,(.int .i64 2)]) U) (
 (ar .add aM true v10 (.int .i64 1)).wp K U (fun cL U =>
 lp v0 ke cL U) (aa R))) (aa R)) (aa R))) (aa R)) (
 ak R (.aF [(.int .i64 0),(.int .i64 0)]) U)) (aa R)) (aa R))) (aa R)) (aa R)
def TQ (a0 a1:AV) (R:cA->St->Prop) (U:St):Prop :=
 (ah aA a1 U).wp K U (fun v4 U =>
 (ah aA a1 U).wp K U (fun v5 U =>
 (cj (some false) v5).wp K U (fun v6 U =>
 (ar .sub aM true v6 (.int .i64 1)).wp K U (fun v7 U =>
 (aG (some (51,3)) none v4 v7).wp K U (fun v8 U =>
 (af (some 1) v8).wp K U (fun v9 U =>
 (ah aA v9 U).wp K U (fun v10 U =>
 (cj (some true) v10).wp K U (fun v11 U =>
 ak R v11 U) (aa R)) (aa R)) (aa R)) (aa R)) (aa R)) (aa R)) (aa R)) (aa R)
def TR:Prop :=
 (dT a0).wp K U (fun v2 U =>
 (dT a1).wp K U (fun v3 U =>
 ak R (.func (.func 147) [] [v2,v3]) U) (aa R)) (aa R)
def TS:Prop :=
 (aD.cP [.int .u8 0,.str [],.int .i64 0]).wp K U (fun v2 U =>
 ae K 149 [a0] U (ag (fun v7 U =>
 (eI true none a0 none (some v7)).wp K U (fun v8 U =>
 (ar .eql aM true v8 (.str w_)).wp K U (fun v11 U =>
 av v11 (
 ae K 150 [a0] U (ag (fun cb U =>
 (aR cb 0).wp K U (fun ct U =>
 (aR cb 1).wp K U (fun bM U =>
 (aJ (some (true,3)) v2 ct U).wp K U (fun _ U =>
 br (some (true,3)) v2 U fun r0 =>
 ak R (.aF [r0,bM]) U) (aa R)) (aa R)) (aa R)) (aa R))) (
 (gj true none none v8 (.int .i64 0)).wp K U (fun cm U =>
 (aq (some (178,1)) (some [.int .i64 0]) 1 false [(0,(.int .i64 2))]).wp K U (fun cL U =>
 ae K 151 [cm,cL] U (ag (fun v20 U =>
 av v20 (
 (eh (some [(0,1),(1,1),(2,1)]) (some [.int .u8 0,.str [],.int .i64 0]) none [(0,(.int .u8 2)),(1,v8)]).wp K U (fun dS U =>
 ae K 152 [v8] U (ag (fun v24 U =>
 (aJ (some (true,3)) v2 dS U).wp K U (fun _ U =>
 br (some (true,3)) v2 U fun oR =>
 ak R (.aF [oR,v24]) U) (aa R)) (aa R))) (aa R)) (
 (gj true none none v8 (.int .i64 0)).wp K U (fun dK U =>
 (aq (some (178,1)) (some [.int .i64 0]) 1 false [(0,(.int .i64 3))]).wp K U (fun v28 U =>
 ae K 151 [dK,v28] U (ag (fun dE U =>
 (jC .not dE).wp K U (fun v30 U =>
 av v30 (
 (eh (some [(0,1),(1,1),(2,1)]) (some [.int .u8 0,.str [],.int .i64 0]) none []).wp K U (fun v31 U =>
 (aJ (some (true,3)) v2 v31 U).wp K U (fun _ U =>
 br (some (true,3)) v2 U fun qg =>
 ak R (.aF [qg,(.int .i64 4)]) U) (aa R)) (aa R)) (
 ae K 153 [] U (ag (fun eR U =>
 (dz (some (.s,4)) (some (.bool false)) eR v8 false U).wp K U (fun gy U =>
 av gy (
 (eh (some [(0,1),(1,1),(2,1)]) (some [.int .u8 0,.str [],.int .i64 0]) none [(0,(.int .u8 3)),(1,v8)]).wp K U (fun v37 U =>
 (aJ (some (true,3)) v2 v37 U).wp K U (fun _ U =>
 br (some (true,3)) v2 U fun Af =>
 ak R (.aF [Af,(.int .i64 0)]) U) (aa R)) (aa R)) (
 (cj (some true) v8).wp K U (fun v40 U =>
 (ar .gtr aM true v40 (.int .i64 12)).wp K U (fun jE U =>
 av jE (
 (eh (some [(0,1),(1,1),(2,1)]) (some [.int .u8 0,.str [],.int .i64 0]) none []).wp K U (fun jF U =>
 (aJ (some (true,3)) v2 jF U).wp K U (fun _ U =>
 br (some (true,3)) v2 U fun GD =>
 ak R (.aF [GD,(.int .i64 4)]) U) (aa R)) (aa R)) (
 (eh (some [(0,1),(1,1),(2,1)]) (some [.int .u8 0,.str [],.int .i64 0]) none [(0,(.int .u8 1)),(1,v8)]).wp K U (fun mb U =>
 (aJ (some (true,3)) v2 mb U).wp K U (fun _ U =>
 br (some (true,3)) v2 U fun GF =>
 ak R (.aF [GF,(.int .i64 0)]) U) (aa R)) (aa R))) (aa R)) (aa R))) (aa R)) (aa R)))) (aa R)) (aa R))) (aa R)) (aa R))) (aa R))) (aa R)) (aa R))) (aa R)) (aa R)) (aa R))) (aa R)
def TT:Prop :=
 (dT a0).wp K U (fun v3 U =>
 (ah (some (true,1)) v3 U).wp K U (fun v9 U =>
 ae K 30 [v9] U (ag (fun v10 U =>
 (ar .neq aM true v10 (.int .i64 0)).wp K U (fun cb U =>
 av cb (
 ak R (.aF [.aw,v10]) U) (
 (af (some 0) v3).wp K U (fun cZ U =>
 (ah aA cZ U).wp K U (fun cm U =>
 (cj (some false) cm).wp K U (fun cL U =>
 (ar .sub aM true cL (.int .i64 1)).wp K U (fun v20 U =>
 ae K 122 [(.int .i64 0),v20,a1] U (ag (fun dS U =>
 (jC .not dS).wp K U (fun dZ U =>
 av dZ (
 ak R (.aF [.aw,(.int .i64 3)]) U) (
 (ah (some (true,1)) v3 U).wp K U (fun dK U =>
 (eh (some [(0,1)]) (some [.aw]) none [(0,dK)]).wp K U (fun v28 U =>
 (gr K.P a2 [v28]).wp K U (fun dE U =>
 (aR dE 0).wp K U (fun v30 U =>
 (aR dE 1).wp K U (fun v31 U =>
 (ar .neq aM true v31 (.int .i64 0)).wp K U (fun eR U =>
 av eR (
 ak R (.aF [.aw,v31]) U) (
 ak R (.aF [v30,(.int .i64 0)]) U)) (aa R)) (aa R)) (aa R)) (aa R)) (aa R)) (aa R))) (aa R)) (aa R))) (aa R)) (aa R)) (aa R)) (aa R))) (aa R)) (aa R))) (aa R)) (aa R)
def TU:Prop :=
 (dT a0).wp K U (fun v2 U =>
 (ah (some (true,1)) v2 U).wp K U (fun v5 U =>
 (ah aA a1 U).wp K U (fun v6 U =>
 ae K 81 [v5,v6] U (ag (fun v7 U =>
 ae K 80 [v7] U (ag (fun v8 U =>
 ak R (.aF [v8,(.int .i64 0)]) U) (aa R))) (aa R))) (aa R)) (aa R)) (aa R)
def TV:Prop :=
 ae K 154 [.aw,a0] U (ag (fun v4 U =>
 ak R v4 U) (aa R))
def TW:Prop :=
 (dT a0).wp K U (fun v2 U =>
 (dT a1).wp K U (fun v3 U =>
 (fun ao:St =>
 ax K (ah aA v3 ao) (fun v6 =>
 ax K (af (some 0) v2) (fun v7 =>
 ax K (af (some 0) v7) (fun v8 =>
 ax K (ah aA v8 ao) (fun v9 =>
 ax K (ah aA v3 ao) (fun v10 =>
 ax K (aG (some (43,6)) none v9 v10) (fun v11 =>
 ax K (af (some 5) v11) (fun v12 =>
 ax K (ah aA v12 ao) (fun cb =>
 ax K (ar .add aM false v6 cb) (fun ct =>
 (aD.cP [.int .i64 0]).wp K U (fun v5 U=>cg ((cM v12++[])++((cM v3++[])++((cM v8++[])++((cM v3++[])++[])))) ao U /\
 (aJ aA v5 ct U).wp K U (fun _ U =>
 ak R (.func (.func 155) [] [v3,v5,v2]) U) (aa R)) (aa R))))))))))) U) (aa R)) (aa R)
def TX:Prop :=
 (dT a0).wp K U (fun v3 U =>
 (ah (some (true,1)) v3 U).wp K U (fun v9 U =>
 ae K 30 [v9] U (ag (fun v10 U =>
 (ar .neq aM true v10 (.int .i64 0)).wp K U (fun cb U =>
 av cb (
 ak R (.aF [(.int .i64 0),v10]) U) (
 (af (some 0) v3).wp K U (fun cZ U =>
 (ah aA cZ U).wp K U (fun cm U =>
 (cj (some false) cm).wp K U (fun cL U =>
 (ar .sub aM true cL (.int .i64 1)).wp K U (fun v20 U =>
 ae K 122 [(.int .i64 0),v20,a1] U (ag (fun dS U =>
 (jC .not dS).wp K U (fun dZ U =>
 av dZ (
 ak R (.aF [(.int .i64 0),(.int .i64 3)]) U) (
 (ah (some (true,1)) v3 U).wp K U (fun dK U =>
 (eh (some [(0,1)]) (some [.aw]) none [(0,dK)]).wp K U (fun v28 U =>
 (gr K.P a2 [v28]).wp K U (fun dE U =>
 (aR dE 0).wp K U (fun v30 U =>
 (aR dE 1).wp K U (fun v31 U =>
 (ar .neq aM true v31 (.int .i64 0)).wp K U (fun eR U =>
 av eR (
 ak R (.aF [(.int .i64 0),v31]) U) (
 ak R (.aF [v30,(.int .i64 0)]) U)) (aa R)) (aa R)) (aa R)) (aa R)) (aa R)) (aa R))) (aa R)) (aa R))) (aa R)) (aa R)) (aa R)) (aa R))) (aa R)) (aa R))) (aa R)) (aa R)
def TY:Prop :=
 (dT a0).wp K U (fun v2 U =>
 (aD.cP [.int .i64 0]).wp K U (fun v3 U =>
 (aD.cP [.int .i64 0]).wp K U (fun v4 U =>
 (ah (some (true,1)) v2 U).wp K U (fun v6 U =>
 ae K 81 [v6,(.int .i64 0)] U (ag (fun v7 U =>
 nq K 1 v7 U (fun v8 q U =>
 q.xU (fun U =>
 (fun ao:St =>
 ax K (af (some 0) v2) (fun v9 =>
 ax K (af (some 0) v9) (fun v10 =>
 ax K (ah aA v10 ao) (fun v11 =>
 ax K (aG (some (43,6)) none v11 v8) (fun cb =>
 ax K (af (some 1) cb) (fun ct =>
 ax K (ah aA ct ao) (fun bM =>
 ax K (ah aA a1 ao) (fun dc =>
 ax K (ar .eql aM false bM dc) (fun cZ =>
 av cZ (
 (aJ aA v3 v8 U).wp K U (fun _ U =>
 (aJ aA v4 (.int .i64 0) U).wp K U (fun _ U =>
 q.r U) (fun _ _=>False)) (fun _ _=>False)) (
 q.n U)))))))))) U) U) (fun U =>
 (aJ aA v3 (.int .i64 0) U).wp K U (fun _ U =>
 (aJ aA v4 (.int .i64 7) U).wp K U (fun _ U =>
 br aA v3 U fun r0 =>
 br aA v4 U fun r1 =>
 ak R (.aF [r0,r1]) U) (aa R)) (aa R)) (fun i U =>
 AM (Nat.beq i 0) (
 (aJ aA v3 (.int .i64 0) U).wp K U (fun _ U =>
 (aJ aA v4 (.int .i64 7) U).wp K U (fun _ U =>
 br aA v3 U fun oR =>
 br aA v4 U fun Ag =>
 ak R (.aF [oR,Ag]) U) (aa R)) (aa R)) (
 False)) (fun U =>
 br aA v3 U fun qg =>
 br aA v4 U fun Ah =>
 ak R (.aF [qg,Ah]) U) (fun x U=>(aa R) x U)) (aa R))) (aa R)) (aa R)) (aa R)) (aa R)
def TZ:Prop :=
 (cj (some false) a0).wp K U (fun v6 U =>
 (ar .gtr aM true v6 (.int .i64 900)).wp K U (fun v7 U =>
 av v7 (
 ak R (.int .i64 5) U) (
 (cj (some false) a0).wp K U (fun v9 U =>
 eP 3 [a0,v9,(.int .i64 0)] U fun lp v8 ke v10 U =>
 (ar .lss aM false v10 ke).wp K U (fun v11 U =>
 av v11 (
 (aG (some (51,3)) none v8 v10).wp K U (fun v12 U =>
 (ah (some (true,3)) v12 U).wp K U (fun cb U =>
 (aD.cP [.int .u8 0,.str [],.int .i64 0]).wp K U (fun v4 U =>
 (aJ (some (true,3)) v4 cb U).wp K U (fun _ U =>
 (ah (some (true,3)) v4 U).wp K U (fun ct U =>
 ae K 156 [ct] U (ag (fun bM U =>
 (jC .not bM).wp K U (fun dc U =>
 av dc (
 ak R (.int .i64 2) U) (
 (ar .add aM true v10 (.int .i64 1)).wp K U (fun cZ U =>
 lp v8 ke cZ U) (aa R))) (aa R)) (aa R))) (aa R)) (aa R)) (aa R)) (aa R)) (aa R)) (
 ak R (.int .i64 0) U)) (aa R)) (aa R))) (aa R)) (aa R)
def abJ:Prop :=
 ae K 164 [a0] U (ag (fun v7 U =>
 (eh (some [(0,1),(1,1),(2,1),(3,1),(4,1),(5,1)]) (some [.int .u8 0,.str [],.int .i64 0,.int .i64 0,.int .i64 0,.int .i64 0]) none [(0,a1),(4,v7)]).wp K U (fun v8 U =>
 (eh (some [(0,6),(6,1)]) (some [.int .u8 0,.str [],.int .i64 0,.int .i64 0,.int .i64 0,.int .i64 0,.aw]) none [(0,v8)]).wp K U (fun v9 U =>
 (dT v9).wp K U (fun v10 U =>
 ak R v10 U) (aa R)) (aa R)) (aa R)) (aa R))
def NF:Prop :=
 (aq (some (9,1)) (some [.str []]) 1 false [(0,a1)]).wp K U (fun v7 U =>
 ae K 105 [a0,v7] U (ag (fun v8 U =>
 (jC .not v8).wp K U (fun v9 U =>
 av v9 (
 ak R (.bool false) U) (
 (aY a0).wp K U (fun v11 U =>
 (af (some 1) v11).wp K U (fun v12 U =>
 (ah aA v12 U).wp K U (fun cb U =>
 (ar .add aM true cb (.int .i64 1)).wp K U (fun ct U =>
 (aY a0).wp K U (fun bM U =>
 (af (some 1) bM).wp K U (fun dc U =>
 (aJ aA dc ct U).wp K U (fun _ U =>
 ak R (.bool true) U) (aa R)) (aa R)) (aa R)) (aa R)) (aa R)) (aa R)) (aa R))) (aa R)) (aa R))) (aa R)
def Zg:Prop :=
 ae K 165 [a0,(.int .u8 1)] U (ag (fun v4 U =>
 ak R v4 U) (aa R))
def Zh:Prop :=
 ae K 100 [a0,a1] U (ag (fun v6 U =>
 (jC .not v6).wp K U (fun v7 U =>
 av v7 (
 ae K 166 [a0] U (ag (fun v9 U =>
 ak R (.aF []) U) (aa R))) (
 ak R (.aF []) U)) (aa R)) (aa R))
def NJ:Prop :=
 (aY a0).wp K U (fun v7 U =>
 (af (some 6) v7).wp K U (fun v8 U =>
 (ah aA v8 U).wp K U (fun v9 U =>
 (ez (some (87,1)) false v9 a1 U).wp K U (fun v11 U =>
 (aY a0).wp K U (fun v12 U =>
 (af (some 6) v12).wp K U (fun cb U =>
 (aJ aA cb v11 U).wp K U (fun _ U =>
 ak R a0 U) (aa R)) (aa R)) (aa R)) (aa R)) (aa R)) (aa R)) (aa R)
def Zi:Prop :=
 ae K 167 [a0,(.int .i64 0)] U (ag (fun v6 U =>
 ae K 121 [v6,a1] U (ag (fun v8 U =>
 ak R v8 U) (aa R))) (aa R))
def GM:Prop :=
 (gr K.P a2 []).wp K U (fun v8 U =>
 (aq (some (87,1)) (some [.aV]) 1 false [(0,v8)]).wp K U (fun v9 U =>
 ae K 103 [a1,v9] U (ag (fun v10 U =>
 eP 3 [a0,a1,a2] U fun lp v0 v1 v2 U =>
 ae K 100 [v0,(.str fG)] U (ag (fun v12 U =>
 av v12 (
 (gr K.P v2 []).wp K U (fun bM U =>
 (aq (some (87,1)) (some [.aV]) 1 false [(0,bM)]).wp K U (fun dc U =>
 ae K 103 [v1,dc] U (ag (fun cZ U =>
 lp v0 v1 v2 U) (aa R))) (aa R)) (aa R)) (
 ak R (.aF []) U)) (aa R))) (aa R))) (aa R)) (aa R)
def NN:Prop :=
 ae K 169 [a0] U (ag (fun v7 U =>
 ae K 99 [a0,(.int .u8 9)] U (ag (fun v9 U =>
 (aq (some (87,1)) (some [.aV]) 1 false [(0,v7)]).wp K U (fun v12 U =>
 ae K 103 [v9,v12] U (ag (fun cb U =>
 jx 2 (fun v3 v4 U =>
 (aY v4).wp K U (fun gn U =>
 (af (some 6) gn).wp K U (fun gy U =>
 (ah aA gy U).wp K U (fun gp U =>
 (cj (some false) gp).wp K U (fun v37 U =>
 (ar .eql aM true v37 (.int .i64 1)).wp K U (fun iv U =>
 av iv (
 ak R v3 U) (
 ak R v4 U)) (aa R)) (aa R)) (aa R)) (aa R)) (aa R)) fun j =>
 eP 3 [a0,v7,v9] U fun lp v0 Hf n0 U =>
 (aq (some (9,1)) (some [.str []]) 1 false [(0,(.str ff))]).wp K U (fun bM U =>
 ae K 105 [v0,bM] U (ag (fun dc U =>
 av dc (
 ae K 167 [v0,(.int .i64 1)] U (ag (fun cm U =>
 (aD.cP [.int .u8 0,.str [],.int .i64 0]).wp K U (fun v5 U =>
 (aJ (some (true,3)) v5 cm U).wp K U (fun _ U =>
 (af (some 0) v5).wp K U (fun cL U =>
 (ah aA cL U).wp K U (fun v20 U =>
 (ar .eql aM true v20 (.int .u8 0)).wp K U (fun v21 U =>
 ai K (aH v21 false) (ah (some (true,3)) v5 U) (fun dZ =>
 ai K (aH v21 false) (aD.enter 61 [dZ]) (fun v24 =>
 (bp v21 (.bool true) v24).wp K U (fun eL U =>
 av eL (
 j Hf n0 U) (
 ae K 102 [v0,(.str ff)] U (ag (fun dK U =>
 ae K 169 [v0] U (ag (fun v30 U =>
 (aq (some (87,1)) (some [.aV]) 1 false [(0,v30)]).wp K U (fun v31 U =>
 ae K 103 [n0,v31] U (ag (fun eU U =>
 lp v0 Hf n0 U) (aa R))) (aa R)) (aa R))) (aa R)))) (aa R)))) (aa R)) (aa R)) (aa R)) (aa R)) (aa R)) (aa R))) (
 j Hf n0 U)) (aa R))) (aa R)) (aa R))) (aa R)) (aa R))) (aa R))
def NP:Prop :=
 (dT a0).wp K U (fun v2 U =>
 (af (some 0) v2).wp K U (fun v5 U =>
 (ah aA v5 U).wp K U (fun v6 U =>
 (ar .eql aM true v6 (.int .u8 3)).wp K U (fun v7 U =>
 ai K (aH v7 false) (af (some 0) v2) (fun v9 =>
 ai K (aH v7 false) (ah aA v9 U) (fun v10 =>
 ai K (aH v7 false) (ar .eql aM true v10 (.int .u8 4)) (fun v11 =>
 (bp v7 (.bool true) v11).wp K U (fun v12 U =>
 ai K (aH v12 true) (aD.val a1) (fun ct =>
 ai K (aH v12 true) (af (some 1) v2) (fun bM =>
 ai K (aH v12 true) (ah aA bM U) (fun dc =>
 ai K (aH v12 true) (aD.enter 178 [ct,dc]) (fun cZ =>
 (bp v12 cZ (.bool false)).wp K U (fun cm U =>
 ak R cm U) (aa R)))))) (aa R))))) (aa R)) (aa R)) (aa R)) (aa R)
def NR:Prop :=
 (ar .geq aM false a2 a0).wp K U (fun v9 U =>
 ai K (aH v9 true) (aD.val a2) (fun v11 =>
 ai K (aH v9 true) (aD.val a1) (fun v12 =>
 ai K (aH v9 true) (ar .leq aM false v11 v12) (fun cb =>
 (bp v9 cb (.bool false)).wp K U (fun ct U =>
 ak R ct U) (aa R))))) (aa R)
def NU:Prop :=
 (aY a0).wp K U (fun v8 U =>
 (af (some 0) v8).wp K U (fun v9 U =>
 (af (some 0) v9).wp K U (fun v10 U =>
 (af (some 0) v10).wp K U (fun v11 U =>
 (ah aA v11 U).wp K U (fun v12 U =>
 (aG (some (43,6)) none v12 a1).wp K U (fun ct U =>
 (ah (some (true,6)) ct U).wp K U (fun bM U =>
 (aD.cP [.int .u8 0,.str [],.int .i64 0,.int .i64 0,.int .i64 0,.int .i64 0]).wp K U (fun v4 U =>
 (aJ (some (true,6)) v4 bM U).wp K U (fun _ U =>
 (aD.cP [.aw]).wp K U (fun v5 U =>
 (aY a0).wp K U (fun cZ U =>
 (af (some 0) cZ).wp K U (fun cm U =>
 (ah (some (true,1)) cm U).wp K U (fun cL U =>
 ae K 81 [cL,a1] U (ag (fun v21 U =>
 nq K 1 v21 U (fun dS q U =>
 q.xU (fun U =>
 (ah aA v5 U).wp K U (fun dZ U =>
 (aq (some (3,1)) (some [.int .i64 0]) 1 false [(0,dS)]).wp K U (fun eL U =>
 (ez (some (3,1)) false dZ eL U).wp K U (fun fM U =>
 (aJ aA v5 fM U).wp K U (fun _ U =>
 q.n U) (fun _ _=>False)) (fun _ _=>False)) (fun _ _=>False)) (fun _ _=>False)) U) (fun U =>
 (af (some 0) v4).wp K U (fun eU U =>
 (ah aA eU U).wp K U (fun eR U =>
 ae K 179 [eR] U (ag (fun gn U =>
 av gn (
 (ah (some (true,6)) v4 U).wp K U (fun gp U =>
 (ah aA v5 U).wp K U (fun v37 U =>
 ae K 180 [a0,gp,v37] U (ag (fun iv U =>
 ak R (.aF []) U) (aa R))) (aa R)) (aa R)) (
 (af (some 0) v4).wp K U (fun v40 U =>
 (ah aA v40 U).wp K U (fun jE U =>
 ae K 181 [jE] U (ag (fun jF U =>
 av jF (
 (ah (some (true,6)) v4 U).wp K U (fun mb U =>
 (ah aA v5 U).wp K U (fun mc U =>
 ae K 182 [a0,mb,mc] U (ag (fun v46 U =>
 ak R (.aF []) U) (aa R))) (aa R)) (aa R)) (
 (af (some 0) v4).wp K U (fun sJ U =>
 (ah aA sJ U).wp K U (fun v49 U =>
 (ar .geq aM true v49 (.int .u8 17)).wp K U (fun ig U =>
 ai K (aH ig true) (af (some 0) v4) (fun nO =>
 ai K (aH ig true) (ah aA nO U) (fun v53 =>
 ai K (aH ig true) (ar .leq aM true v53 (.int .u8 25)) (fun mP =>
 (bp ig mP (.bool false)).wp K U (fun mf U =>
 av mf (
 (ah (some (true,6)) v4 U).wp K U (fun nP U =>
 (ah aA v5 U).wp K U (fun nQ U =>
 ae K 183 [a0,nP,nQ] U (ag (fun v59 U =>
 ak R (.aF []) U) (aa R))) (aa R)) (aa R)) (
 (af (some 0) v4).wp K U (fun ly U =>
 (ah aA ly U).wp K U (fun sK U =>
 (ar .geq aM true sK (.int .u8 9)).wp K U (fun pW U =>
 ai K (aH pW true) (af (some 0) v4) (fun pe =>
 ai K (aH pW true) (ah aA pe U) (fun yr =>
 ai K (aH pW true) (ar .leq aM true yr (.int .u8 16)) (fun rj =>
 (bp pW rj (.bool false)).wp K U (fun tD U =>
 av tD (
 (ah (some (true,6)) v4 U).wp K U (fun v70 U =>
 (ah aA v5 U).wp K U (fun BY U =>
 ae K 184 [a0,v70,BY] U (ag (fun v72 U =>
 ak R (.aF []) U) (aa R))) (aa R)) (aa R)) (
 (af (some 0) v4).wp K U (fun pg U =>
 (ah aA pg U).wp K U (fun v75 U =>
 ae K 185 [v75] U (ag (fun v76 U =>
 av v76 (
 (ah (some (true,6)) v4 U).wp K U (fun zL U =>
 (ah aA v5 U).wp K U (fun D6 U =>
 ae K 186 [a0,zL,D6] U (ag (fun v80 U =>
 ak R (.aF []) U) (aa R))) (aa R)) (aa R)) (
 (ah (some (true,6)) v4 U).wp K U (fun v28 U =>
 (ah aA v5 U).wp K U (fun dE U =>
 ae K 187 [a0,v28,dE] U (ag (fun v30 U =>
 ak R (.aF []) U) (aa R))) (aa R)) (aa R))) (aa R))) (aa R)) (aa R))) (aa R))))) (aa R)) (aa R)) (aa R))) (aa R))))) (aa R)) (aa R)) (aa R))) (aa R))) (aa R)) (aa R))) (aa R))) (aa R)) (aa R)) (fun i U =>
 AM (Nat.beq i 0) (
 (af (some 0) v4).wp K U (fun abT U =>
 (ah aA abT U).wp K U (fun abU U =>
 ae K 179 [abU] U (ag (fun BW U =>
 av BW (
 (ah (some (true,6)) v4 U).wp K U (fun oJ U =>
 (ah aA v5 U).wp K U (fun abW U =>
 ae K 180 [a0,oJ,abW] U (ag (fun aer U =>
 ak R (.aF []) U) (aa R))) (aa R)) (aa R)) (
 (af (some 0) v4).wp K U (fun abX U =>
 (ah aA abX U).wp K U (fun abY U =>
 ae K 181 [abY] U (ag (fun yV U =>
 av yV (
 (ah (some (true,6)) v4 U).wp K U (fun abZ U =>
 (ah aA v5 U).wp K U (fun ab0 U =>
 ae K 182 [a0,abZ,ab0] U (ag (fun aes U =>
 ak R (.aF []) U) (aa R))) (aa R)) (aa R)) (
 (af (some 0) v4).wp K U (fun ab1 U =>
 (ah aA ab1 U).wp K U (fun La U =>
 (ar .geq aM true La (.int .u8 17)).wp K U (fun yW U =>
 ai K (aH yW true) (af (some 0) v4) (fun Lc =>
 ai K (aH yW true) (ah aA Lc U) (fun ab4 =>
 ai K (aH yW true) (ar .leq aM true ab4 (.int .u8 25)) (fun Ld =>
 (bp yW Ld (.bool false)).wp K U (fun ab5 U =>
 av ab5 (
 (ah (some (true,6)) v4 U).wp K U (fun ab6 U =>
 (ah aA v5 U).wp K U (fun ab7 U =>
 ae K 183 [a0,ab6,ab7] U (ag (fun aet U =>
 ak R (.aF []) U) (aa R))) (aa R)) (aa R)) (
 (af (some 0) v4).wp K U (fun ab8 U =>
 (ah aA ab8 U).wp K U (fun ab9 U =>
 (ar .geq aM true ab9 (.int .u8 9)).wp K U (fun EE U =>
 ai K (aH EE true) (af (some 0) v4) (fun aca =>
 ai K (aH EE true) (ah aA aca U) (fun acb =>
 ai K (aH EE true) (ar .leq aM true acb (.int .u8 16)) (fun acd =>
 (bp EE acd (.bool false)).wp K U (fun ace U =>
 av ace (
 (ah (some (true,6)) v4 U).wp K U (fun acf U =>
 (ah aA v5 U).wp K U (fun acg U =>
 ae K 184 [a0,acf,acg] U (ag (fun aeu U =>
 ak R (.aF []) U) (aa R))) (aa R)) (aa R)) (
 (af (some 0) v4).wp K U (fun ach U =>
 (ah aA ach U).wp K U (fun aci U =>
 ae K 185 [aci] U (ag (fun acj U =>
 av acj (
 (ah (some (true,6)) v4 U).wp K U (fun ack U =>
 (ah aA v5 U).wp K U (fun acm U =>
 ae K 186 [a0,ack,acm] U (ag (fun aev U =>
 ak R (.aF []) U) (aa R))) (aa R)) (aa R)) (
 (ah (some (true,6)) v4 U).wp K U (fun abR U =>
 (ah aA v5 U).wp K U (fun abS U =>
 ae K 187 [a0,abR,abS] U (ag (fun aeq U =>
 ak R (.aF []) U) (aa R))) (aa R)) (aa R))) (aa R))) (aa R)) (aa R))) (aa R))))) (aa R)) (aa R)) (aa R))) (aa R))))) (aa R)) (aa R)) (aa R))) (aa R))) (aa R)) (aa R))) (aa R))) (aa R)) (aa R)) (
 False)) (fun U =>
 ak R (.aF []) U) (fun x U=>(aa R) x U)) (aa R))) (aa R)) (aa R)) (aa R)) (aa R)) (aa R)) (aa R)) (aa R)) (aa R)) (aa R)) (aa R)) (aa R)) (aa R)) (aa R)
def NX:Prop :=
 ae K 93 [a0] U (ag (fun v9 U =>
 (ar .neq aM true v9 (.int .i64 0)).wp K U (fun v11 U =>
 av v11 (
 ak R (.aF [(.str w_),v9]) U) (
 (aD.new .box none (.ri 158 [.aV,.aw])).wp K U (fun v5 U =>
 (cj (some false) a0).wp K U (fun ct U =>
 eP 5 [a0,v5,a0,ct,(.int .i64 0)] U fun lp v0 wo cb BU bM U =>
 (ar .lss aM false bM BU).wp K U (fun dc U =>
 av dc (
 (aG (some (51,3)) none cb bM).wp K U (fun cm U =>
 (ah (some (true,3)) cm U).wp K U (fun cL U =>
 (aD.cP [.int .u8 0,.str [],.int .i64 0]).wp K U (fun v7 U =>
 (aJ (some (true,3)) v7 cL U).wp K U (fun _ U =>
 jx 6 (fun ji Z0 jV tC abK abL U =>
 (af (some 1) jV).wp K U (fun eU U =>
 (ah aA eU U).wp K U (fun eR U =>
 ae K 125 [Z0,eR] U (ag (fun gn U =>
 (ar .add aM true abL (.int .i64 1)).wp K U (fun gy U =>
 lp ji Z0 tC abK gy U) (aa R)) (aa R))) (aa R)) (aa R)) fun j =>
 (fun ao:St =>
 ax K (ar .gtr aM true bM (.int .i64 0)) (fun v21 =>
 ai K (aH v21 true) (aD.val v0) (fun dZ =>
 ai K (aH v21 true) (aD.val bM) (fun v24 =>
 ai K (aH v21 true) (ar .sub aM true v24 (.int .i64 1)) (fun eL =>
 ai K (aH v21 true) (aG (some (51,3)) none dZ eL) (fun fM =>
 ai K (aH v21 true) (ah (some (true,3)) fM ao) (fun dK =>
 ai K (aH v21 true) (ah (some (true,3)) v7 ao) (fun v28 =>
 ai K (aH v21 true) (aD.enter 188 [dK,v28]) (fun dE =>
 ax K (bp v21 dE (.bool false)) (fun v30 =>
 av v30 (
 ae K 189 [wo,(.int .u8 32)] U (ag (fun v31 U =>
 j v0 wo v7 cb BU bM U) (aa R))) (
 j v0 wo v7 cb BU bM U))))))))))) U) (aa R)) (aa R)) (aa R)) (aa R)) (
 ae K 126 [wo] U (ag (fun gp U =>
 (ar .gtr aM true gp (.int .i64 2500)).wp K U (fun v37 U =>
 av v37 (
 ak R (.aF [(.str w_),(.int .i64 5)]) U) (
 ae K 127 [wo] U (ag (fun iv U =>
 ak R (.aF [iv,(.int .i64 0)]) U) (aa R)))) (aa R)) (aa R)))) (aa R)) (aa R)) (aa R))) (aa R)) (aa R))
def NZ:Prop :=
 ae K 190 [a0] U (ag (fun v7 U =>
 (aY a0).wp K U (fun v10 U =>
 (af (some 1) v10).wp K U (fun v11 U =>
 (ah aA v11 U).wp K U (fun v12 U =>
 (ez (some (5,1)) false v12 a1 U).wp K U (fun ct U =>
 (aY a0).wp K U (fun bM U =>
 (af (some 1) bM).wp K U (fun dc U =>
 (aJ aA dc ct U).wp K U (fun _ U =>
 (cj (some true) a1).wp K U (fun cm U =>
 ak R (.aF [cm,.cJ]) U) (aa R)) (aa R)) (aa R)) (aa R)) (aa R)) (aa R)) (aa R)) (aa R)) (aa R))
def N1:Prop :=
 (aY a0).wp K U (fun v4 U =>
 (af (some 1) v4).wp K U (fun v5 U =>
 (ah aA v5 U).wp K U (fun v6 U =>
 (cj (some false) v6).wp K U (fun v7 U =>
 ak R v7 U) (aa R)) (aa R)) (aa R)) (aa R)
def N3:Prop :=
 (dT a0).wp K U (fun v3 U =>
 (dT a1).wp K U (fun v4 U =>
 (aD.cP [.bool false]).wp K U (fun v6 U =>
 (af (some 0) v3).wp K U (fun cb U =>
 (af (some 0) cb).wp K U (fun ct U =>
 (ah aA ct U).wp K U (fun bM U =>
 (ah aA v4 U).wp K U (fun dc U =>
 (aG (some (43,6)) none bM dc).wp K U (fun cZ U =>
 (ah (some (true,6)) cZ U).wp K U (fun cm U =>
 (aD.cP [.int .u8 0,.str [],.int .i64 0,.int .i64 0,.int .i64 0,.int .i64 0]).wp K U (fun v7 U =>
 (aJ (some (true,6)) v7 cm U).wp K U (fun _ U =>
 (af (some 0) v7).wp K U (fun v21 U =>
 (ah aA v21 U).wp K U (fun dS U =>
 (dz (some (.i,204)) (some (.agg [.bool false,.bool false,.bool false,.aw])) a2 dS true U).wp K U (fun dZ U =>
 (aR dZ 0).wp K U (fun v24 U =>
 (aR dZ 1).wp K U (fun eL U =>
 (aD.cP [.bool false,.bool false,.bool false,.aw]).wp K U (fun v8 U =>
 (aJ (some (true,4)) v8 v24 U).wp K U (fun _ U =>
 (jC .not eL).wp K U (fun dK U =>
 ai K (aH dK false) (af (some 0) v3) (fun dE =>
 ai K (aH dK false) (af (some 0) dE) (fun v30 =>
 ai K (aH dK false) (ah aA v30 U) (fun v31 =>
 ai K (aH dK false) (cj (some false) v31) (fun eU =>
 ai K (aH dK false) (ah aA v4 U) (fun eR =>
 ai K (aH dK false) (ar .sub aM false eU eR) (fun gn =>
 ai K (aH dK false) (af (some 5) v7) (fun gy =>
 ai K (aH dK false) (ah aA gy U) (fun gp =>
 ai K (aH dK false) (aD.enter 122 [(.int .i64 1),gn,gp]) (fun v37 =>
 ai K (aH dK false) (jC .not v37) (fun iv =>
 (bp dK (.bool true) iv).wp K U (fun mO U =>
 ai K (aH mO false) (af (some 0) v8) (fun jE =>
 ai K (aH mO false) (ah aA jE U) (fun jF =>
 ai K (aH mO false) (af (some 1) v7) (fun js =>
 ai K (aH mO false) (ah aA js U) (fun mb =>
 ai K (aH mO false) (ar .neq aM true mb (.str w_)) (fun mc =>
 ai K (aH mO false) (ar .neq (BT.mk true false false none false) false jF mc) (fun v46 =>
 (bp mO (.bool true) v46).wp K U (fun jt U =>
 ai K (aH jt false) (af (some 0) v8) (fun v49 =>
 ai K (aH jt false) (ah aA v49 U) (fun ig =>
 ai K (aH jt false) (aD.val ig) (fun v51 =>
 ai K (aH v51 true) (af (some 1) v7) (fun nO =>
 ai K (aH v51 true) (ah aA nO U) (fun v53 =>
 ai K (aH v51 true) (aD.enter 208 [v53]) (fun mP =>
 ai K (aH v51 true) (jC .not mP) (fun mf =>
 ai K (aH jt false) (bp v51 mf (.bool false)) (fun pd =>
 (bp jt (.bool true) pd).wp K U (fun nP U =>
 av nP (
 (aJ aA v6 (.bool false) U).wp K U (fun _ U =>
 br aA v6 U fun r0 =>
 ak R r0 U) (aa R)) (
 (af (some 2) v7).wp K U (fun nQ U =>
 (ah aA nQ U).wp K U (fun v59 U =>
 ae K 122 [(.int .i64 0),(.int .i64 1000000),v59] U (ag (fun va U =>
 (jC .not va).wp K U (fun ly U =>
 ai K (aH ly false) (af (some 3) v7) (fun pW =>
 ai K (aH ly false) (ah aA pW U) (fun sL =>
 ai K (aH ly false) (aD.enter 122 [(.int .i64 0),(.int .i64 1000000),sL]) (fun pe =>
 ai K (aH ly false) (jC .not pe) (fun yr =>
 (bp ly (.bool true) yr).wp K U (fun rj U =>
 ai K (aH rj false) (af (some 1) v8) (fun yu =>
 ai K (aH rj false) (ah aA yu U) (fun v70 =>
 ai K (aH rj false) (jC .not v70) (fun BY =>
 ai K (aH rj false) (aD.val BY) (fun v72 =>
 ai K (aH v72 true) (af (some 2) v7) (fun D5 =>
 ai K (aH v72 true) (ah aA D5 U) (fun pg =>
 ai K (aH v72 true) (ar .neq aM true pg (.int .i64 0)) (fun v75 =>
 ai K (aH rj false) (bp v72 v75 (.bool false)) (fun v76 =>
 (bp rj (.bool true) v76).wp K U (fun zK U =>
 ai K (aH zK false) (af (some 2) v8) (fun D6 =>
 ai K (aH zK false) (ah aA D6 U) (fun v80 =>
 ai K (aH zK false) (jC .not v80) (fun Jg =>
 ai K (aH zK false) (aD.val Jg) (fun zM =>
 ai K (aH zM true) (af (some 3) v7) (fun Z2 =>
 ai K (aH zM true) (ah aA Z2 U) (fun Z3 =>
 ai K (aH zM true) (ar .neq aM true Z3 (.int .i64 0)) (fun v85 =>
 ai K (aH zK false) (bp zM v85 (.bool false)) (fun oA =>
 (bp zK (.bool true) oA).wp K U (fun v87 U =>
 av v87 (
 (aJ aA v6 (.bool false) U).wp K U (fun _ U =>
 br aA v6 U fun oR =>
 ak R oR U) (aa R)) (
 (aD.cP [.aw]).wp K U (fun v10 U =>
 (ah aA v4 U).wp K U (fun Z4 U =>
 (ar .add aM true Z4 (.int .i64 1)).wp K U (fun PZ U =>
 (aD.cP [.int .i64 0]).wp K U (fun v11 U =>
 (aJ aA v11 PZ U).wp K U (fun _ U =>
 (ah (some (true,1)) v3 U).wp K U (fun Z5 U =>
 (ah aA v4 U).wp K U (fun v91 U =>
 ae K 81 [Z5,v91] U (ag (fun P0 U =>
 nq K 1 P0 U (fun v93 q U =>
 q.xU (fun U =>
 (fun ao:St =>
 ax K (ah aA v10 ao) (fun Z6 =>
 ax K (af (some 0) v3) (fun Z7 =>
 ax K (af (some 0) Z7) (fun Jh =>
 ax K (ah aA Jh ao) (fun Um =>
 ax K (aG (some (43,6)) none Um v93) (fun P3 =>
 ax K (af (some 0) P3) (fun K5 =>
 ax K (ah aA K5 ao) (fun G9 =>
 ax K (aq (some (5,1)) (some [.int .u8 0]) 1 false [(0,G9)]) (fun K6 =>
 (ez (some (5,1)) false Z6 K6 U).wp K U (fun Sm U=>cg ((cM K5++[])++((cM Jh++[])++((cM v10++[])++[]))) ao U /\
 (aJ aA v10 Sm U).wp K U (fun _ U =>
 (fun jy:St =>
 ax K (ah aA v4 jy) (fun Ha =>
 ax K (af (some 5) v7) (fun v105 =>
 ax K (ah aA v105 jy) (fun K7 =>
 ax K (ar .add aM false Ha K7) (fun v107 =>
 ax K (ar .sub aM false v107 v93) (fun v109 =>
 ax K (af (some 0) v3) (fun Hb =>
 ax K (af (some 0) Hb) (fun Hc =>
 ax K (ah aA Hc jy) (fun CR =>
 ax K (aG (some (43,6)) none CR v93) (fun K9 =>
 ax K (af (some 5) K9) (fun ad3 =>
 ax K (ah aA ad3 jy) (fun He =>
 ax K (aD.enter 122 [(.int .i64 1),v109,He]) (fun v117 =>
 ax K (jC .not v117) (fun ad4 =>
 av ad4 (
 (aJ aA v6 (.bool false) U).wp K U (fun _ U =>
 q.r U) (fun _ _=>False)) (
 (af (some 0) v3).wp K U (fun ad5 U =>
 (af (some 0) ad5).wp K U (fun Sn U =>
 (ah aA Sn U).wp K U (fun So U =>
 (aG (some (43,6)) none So v93).wp K U (fun v124 U =>
 (af (some 5) v124).wp K U (fun Sq U =>
 (ah aA Sq U).wp K U (fun Sr U =>
 (ar .add aM false v93 Sr).wp K U (fun v127 U =>
 (aJ aA v11 v127 U).wp K U (fun _ U =>
 q.n U) (fun _ _=>False)) (fun _ _=>False)) (fun _ _=>False)) (fun _ _=>False)) (fun _ _=>False)) (fun _ _=>False)) (fun _ _=>False)) (fun _ _=>False)))))))))))))))) U) (fun _ _=>False)) (fun _ _=>False)))))))))) U) U) (fun U =>
 (ah aA v11 U).wp K U (fun CS U =>
 (ah aA v4 U).wp K U (fun ad6 U =>
 (af (some 5) v7).wp K U (fun v130 U =>
 (ah aA v130 U).wp K U (fun v131 U =>
 (ar .add aM false ad6 v131).wp K U (fun Ss U =>
 (ar .eql aM false CS Ss).wp K U (fun qV U =>
 ai K (aH qV true) (ah aA v10 U) (fun Su =>
 ai K (aH qV true) (af (some 3) v8) (fun Sv =>
 ai K (aH qV true) (ah aA Sv U) (fun CT =>
 av (aH qV true) (
 ae K 209 [Su,CT] U (ag (fun v138 U =>
 (bp qV v138 (.bool false)).wp K U (fun v139 U =>
 (aJ aA v6 v139 U).wp K U (fun _ U =>
 br aA v6 U fun qg =>
 ak R qg U) (aa R)) (aa R)) (aa R))) (
 (bp qV (.aF []) (.bool false)).wp K U (fun ZV U =>
 (aJ aA v6 ZV U).wp K U (fun _ U =>
 br aA v6 U fun Af =>
 ak R Af U) (aa R)) (aa R)))))) (aa R)) (aa R)) (aa R)) (aa R)) (aa R)) (aa R)) (fun i U =>
 AM (Nat.beq i 0) (
 (ah aA v11 U).wp K U (fun ZM U =>
 (ah aA v4 U).wp K U (fun ZN U =>
 (af (some 5) v7).wp K U (fun ZO U =>
 (ah aA ZO U).wp K U (fun ZP U =>
 (ar .add aM false ZN ZP).wp K U (fun ZQ U =>
 (ar .eql aM false ZM ZQ).wp K U (fun u9 U =>
 ai K (aH u9 true) (ah aA v10 U) (fun ZR =>
 ai K (aH u9 true) (af (some 3) v8) (fun ZS =>
 ai K (aH u9 true) (ah aA ZS U) (fun ZT =>
 av (aH u9 true) (
 ae K 209 [ZR,ZT] U (ag (fun ZU U =>
 (bp u9 ZU (.bool false)).wp K U (fun ZW U =>
 (aJ aA v6 ZW U).wp K U (fun _ U =>
 br aA v6 U fun GD =>
 ak R GD U) (aa R)) (aa R)) (aa R))) (
 (bp u9 (.aF []) (.bool false)).wp K U (fun ZX U =>
 (aJ aA v6 ZX U).wp K U (fun _ U =>
 br aA v6 U fun GF =>
 ak R GF U) (aa R)) (aa R)))))) (aa R)) (aa R)) (aa R)) (aa R)) (aa R)) (aa R)) (
 False)) (fun U =>
 br aA v6 U fun adN =>
 ak R adN U) (fun x U=>(aa R) x U)) (aa R))) (aa R)) (aa R)) (aa R)) (aa R)) (aa R)) (aa R)) (aa R))) (aa R)))))))))) (aa R)))))))))) (aa R)))))) (aa R)) (aa R))) (aa R)) (aa R))) (aa R)))))))))) (aa R)))))))) (aa R)))))))))))) (aa R)) (aa R)) (aa R)) (aa R)) (aa R)) (aa R)) (aa R)) (aa R)) (aa R)) (aa R)) (aa R)) (aa R)) (aa R)) (aa R)) (aa R)) (aa R)) (aa R)) (aa R)) (aa R)
def N5:Prop :=
 ae K 210 [a0,a1] U (ag (fun v10 U =>
 (ar .eql aM true v10 (.int .i64 (-1))).wp K U (fun v12 U =>
 av v12 (
 ak R a0 U) (
 (ar .add aM true v10 (.int .i64 1)).wp K U (fun bM U =>
 eP 4 [a0,a1,v10,bM] U fun lp v0 v1 v5 v6 U =>
 (cj (some false) v0).wp K U (fun cm U =>
 (ar .lss aM false v6 cm).wp K U (fun cL U =>
 av cL (
 jx 4 (fun ji jU wo nw U =>
 (ar .add aM true nw (.int .i64 1)).wp K U (fun v21 U =>
 lp ji jU wo v21 U) (aa R)) fun j =>
 (aG (some (3,1)) none v0 v6).wp K U (fun v24 U =>
 (ah aA v24 U).wp K U (fun eL U =>
 (gr K.P v1 [eL]).wp K U (fun v28 U =>
 (jC .not v28).wp K U (fun dE U =>
 av dE (
 (aG (some (3,1)) none v0 v5).wp K U (fun eR U =>
 (aJ aA eR eL U).wp K U (fun _ U =>
 (ar .add aM true v5 (.int .i64 1)).wp K U (fun gy U =>
 j v0 v1 gy v6 U) (aa R)) (aa R)) (aa R)) (
 j v0 v1 v5 v6 U)) (aa R)) (aa R)) (aa R)) (aa R)) (
 (eI false (some (3,1)) v0 (some v5) none).wp K U (fun iv U =>
 (AI (some (3,1)) (some [.int .i64 0]) iv U).wp K U (fun _ U =>
 (eI false (some (3,1)) v0 none (some v5)).wp K U (fun jE U =>
 ak R jE U) (aa R)) (aa R)) (aa R))) (aa R)) (aa R)) (aa R))) (aa R)) (aa R))
def N7:Prop :=
 (ah aA a1 U).wp K U (fun v5 U =>
 (ar .leq aM false a0 v5).wp K U (fun v6 U =>
 ak R v6 U) (aa R)) (aa R)
def N9:Prop :=
 (aq (some (178,1)) (some [.int .i64 0]) 1 false [(0,(.int .i64 0))]).wp K U (fun v4 U =>
 ae K 151 [a0,v4] U (ag (fun v5 U =>
 (jC .not v5).wp K U (fun v6 U =>
 ak R v6 U) (aa R)) (aa R))) (aa R)
def Ob:Prop :=
 eP 4 [a0,a1,a2,(.int .i64 0)] U fun lp v0 v1 v2 v4 U =>
 (ah aA v1 U).wp K U (fun v9 U =>
 (cj (some true) v9).wp K U (fun v10 U =>
 (ar .lss aM false v4 v10).wp K U (fun v11 U =>
 av v11 (
 (ah aA v1 U).wp K U (fun v12 U =>
 (gj true none none v12 v4).wp K U (fun ct U =>
 jx 6 (fun ji jU mE n0 BU v24 U =>
 av v24 (
 (ar .add aM true n0 (.int .i64 1)).wp K U (fun v28 U =>
 lp ji jU mE v28 U) (aa R)) (
 (ar .eql aM true BU (.int .u8 126)).wp K U (fun v30 U =>
 av v30 (
 (ah aA jU U).wp K U (fun eU U =>
 (eI true none eU (some n0) none).wp K U (fun gn U =>
 ae K 148 [gn,(.str lR)] U (ag (fun gy U =>
 (aR gy 0).wp K U (fun gp U =>
 (aR gy 1).wp K U (fun v37 U =>
 (aR gy 2).wp K U (fun iv U =>
 (gr K.P ji [n0,gp]).wp K U (fun jF U =>
 (jC .not jF).wp K U (fun js U =>
 av js (
 ak R (.aF []) U) (
 (cj (some true) gp).wp K U (fun v46 U =>
 (ar .add aM false n0 v46).wp K U (fun jt U =>
 lp ji jU mE jt U) (aa R)) (aa R))) (aa R)) (aa R)) (aa R)) (aa R)) (aa R)) (aa R))) (aa R)) (aa R)) (
 (gr K.P ji [n0,(.str w_)]).wp K U (fun cZ U =>
 (jC .not cZ).wp K U (fun cm U =>
 av cm (
 ak R (.aF []) U) (
 (ah aA mE U).wp K U (fun v20 U =>
 (gr K.P v20 [n0]).wp K U (fun dS U =>
 (ar .add aM false n0 dS).wp K U (fun dZ U =>
 lp ji jU mE dZ U) (aa R)) (aa R)) (aa R))) (aa R)) (aa R))) (aa R))) fun j =>
 (ar .eql aM true ct (.int .u8 32)).wp K U (fun eL U =>
 av eL (
 j v0 v1 v2 v4 ct eL U) (
 (ar .eql aM true ct (.int .u8 10)).wp K U (fun fM U =>
 j v0 v1 v2 v4 ct fM U) (aa R))) (aa R)) (aa R)) (aa R)) (
 ak R (.aF []) U)) (aa R)) (aa R)) (aa R)
def Zj:Prop :=
 ae K 212 [a0,a1] U (ag (fun v9 U =>
 (aR v9 0).wp K U (fun v10 U =>
 (aR v9 1).wp K U (fun v11 U =>
 (aR v9 2).wp K U (fun v12 U =>
 ak R (.aF [v10,v11,v12]) U) (aa R)) (aa R)) (aa R)) (aa R))
def Oe:Prop :=
 eP 2 [a0,(.int .i64 0)] U fun lp v0 v2 U =>
 (cj (some true) v0).wp K U (fun v5 U =>
 (ar .lss aM false v2 v5).wp K U (fun v6 U =>
 ai K (aH v6 true) (aD.val v0) (fun v8 =>
 ai K (aH v6 true) (aD.val v2) (fun v9 =>
 ai K (aH v6 true) (gj true none none v8 v9) (fun v10 =>
 ai K (aH v6 true) (aq (some (178,1)) (some [.int .i64 0]) 3 false [(0,(.int .i64 2)),(1,(.int .i64 3)),(2,(.int .i64 4))]) (fun v11 =>
 ai K (aH v6 true) (aD.enter 151 [v10,v11]) (fun v12 =>
 (bp v6 v12 (.bool false)).wp K U (fun cb U =>
 av cb (
 (ar .add aM true v2 (.int .i64 1)).wp K U (fun bM U =>
 lp v0 bM U) (aa R)) (
 ak R v2 U)) (aa R))))))) (aa R)) (aa R)
def Og:Prop :=
 (aD.cP [.int .u8 0,.str [],.int .i64 0]).wp K U (fun v2 U =>
 (eh none (some [.str [],.str []]) (some (2,9,1)) [(0,(.str bX)),(1,(.str iq))]).wp K U (fun v6 U =>
 eP 4 [a0,v2,v6,(.int .i64 0)] U fun lp v0 mE nw v7 U =>
 (ar .lss aM true v7 (.int .i64 2)).wp K U (fun v8 U =>
 av v8 (
 (gj false (some (2,9,1)) aA nw v7).wp K U (fun v9 U =>
 ae K 213 [v0,v9] U (ag (fun v12 U =>
 av v12 (
 (eh (some [(0,1),(1,1),(2,1)]) (some [.int .u8 0,.str [],.int .i64 0]) none [(0,(.int .u8 4)),(1,v9)]).wp K U (fun ct U =>
 (aJ (some (true,3)) mE ct U).wp K U (fun _ U =>
 br (some (true,3)) mE U fun r0 =>
 ak R (.aF [r0,(.int .i64 0)]) U) (aa R)) (aa R)) (
 (ar .add aM true v7 (.int .i64 1)).wp K U (fun bM U =>
 lp v0 mE nw bM U) (aa R))) (aa R))) (aa R)) (
 (ar .eql aM true v0 (.str w_)).wp K U (fun cZ U =>
 ai K (aH cZ false) (aD.val v0) (fun cL =>
 ai K (aH cZ false) (gj true none none cL (.int .i64 0)) (fun v20 =>
 ai K (aH cZ false) (aD.enter 214 [(.str dw),v20]) (fun v21 =>
 ai K (aH cZ false) (ar .lss aM true v21 (.int .i64 0)) (fun dS =>
 (bp cZ (.bool true) dS).wp K U (fun dZ U =>
 av dZ (
 (eh (some [(0,1),(1,1),(2,1)]) (some [.int .u8 0,.str [],.int .i64 0]) none []).wp K U (fun v24 U =>
 (aJ (some (true,3)) mE v24 U).wp K U (fun _ U =>
 br (some (true,3)) mE U fun oR =>
 ak R (.aF [oR,(.int .i64 4)]) U) (aa R)) (aa R)) (
 (eI true none v0 none (some (.int .i64 1))).wp K U (fun fM U =>
 (eh (some [(0,1),(1,1),(2,1)]) (some [.int .u8 0,.str [],.int .i64 0]) none [(0,(.int .u8 4)),(1,fM)]).wp K U (fun dK U =>
 (aJ (some (true,3)) mE dK U).wp K U (fun _ U =>
 br (some (true,3)) mE U fun qg =>
 ak R (.aF [qg,(.int .i64 0)]) U) (aa R)) (aa R)) (aa R))) (aa R)))))) (aa R))) (aa R)) (aa R)) (aa R)
def Zk:Prop :=
 ae K 216 [a0] U (ag (fun v7 U =>
 ae K 215 [a1,v7] U (ag (fun v8 U =>
 ak R v8 U) (aa R))) (aa R))
def Oj:Prop :=
 (cj (some true) a0).wp K U (fun v6 U =>
 eP 4 [a0,(.int .i64 0),v6,(.int .i64 0)] U fun lp v0 v3 nw v7 U =>
 (ar .lss aM false v7 nw).wp K U (fun v8 U =>
 av v8 (
 (gj true none none v0 v7).wp K U (fun v12 U =>
 (aq (some (178,1)) (some [.int .i64 0]) 1 false [(0,(.int .i64 2))]).wp K U (fun cb U =>
 ae K 151 [v12,cb] U (ag (fun ct U =>
 (jC .not ct).wp K U (fun bM U =>
 av bM (
 ak R (.int .i64 4) U) (
 (ar .mul aM true (.int .i64 10) v3).wp K U (fun cZ U =>
 (gj true none none v0 v7).wp K U (fun v20 U =>
 (ar .sub aM true v20 (.int .u8 48)).wp K U (fun v21 U =>
 (Eo (some .i64) true false false v21).wp K U (fun dS U =>
 (ar .add aM false cZ dS).wp K U (fun dZ U =>
 (xV dZ (.int .i64 1000001)).wp K U (fun v24 U =>
 (ar .add aM true v7 (.int .i64 1)).wp K U (fun eL U =>
 lp v0 v24 nw eL U) (aa R)) (aa R)) (aa R)) (aa R)) (aa R)) (aa R)) (aa R))) (aa R)) (aa R))) (aa R)) (aa R)) (
 (cj (some true) v0).wp K U (fun v28 U =>
 (ar .gtr aM true v28 (.int .i64 1)).wp K U (fun dE U =>
 ai K (aH dE true) (aD.val v0) (fun v31 =>
 ai K (aH dE true) (gj true none none v31 (.int .i64 0)) (fun eU =>
 ai K (aH dE true) (ar .eql aM true eU (.int .u8 48)) (fun eR =>
 (bp dE eR (.bool false)).wp K U (fun gn U =>
 av gn (
 ak R (.int .i64 4) U) (
 (ar .gtr aM true v3 (.int .i64 1000000)).wp K U (fun v37 U =>
 av v37 (
 ak R (.int .i64 3) U) (
 ak R (.int .i64 0) U)) (aa R))) (aa R))))) (aa R)) (aa R))) (aa R)) (aa R)
def TE:Prop :=
 (dT a0).wp K U (fun v1 U =>
 (af (some 0) v1).wp K U (fun v4 U =>
 (ah aA v4 U).wp K U (fun v5 U =>
 (cj (some false) v5).wp K U (fun v6 U =>
 (ar .gtr aM true v6 (.int .i64 900)).wp K U (fun v7 U =>
 av v7 (
 ak R (.int .i64 5) U) (
 (ah (some (true,1)) v1 U).wp K U (fun v9 U =>
 (eh (some [(0,1)]) (some [.aw]) none [(0,v9)]).wp K U (fun v10 U =>
 ae K 68 [v10] U (ag (fun v11 U =>
 (jC .not v11).wp K U (fun v12 U =>
 av v12 (
 ak R (.int .i64 4) U) (
 (ah (some (true,1)) v1 U).wp K U (fun ct U =>
 ae K 69 [ct] U (ag (fun bM U =>
 av bM (
 ak R (.int .i64 5) U) (
 ak R (.int .i64 0) U)) (aa R))) (aa R))) (aa R)) (aa R))) (aa R)) (aa R))) (aa R)) (aa R)) (aa R)) (aa R)) (aa R)
def TF:Prop :=
 (dT a0).wp K U (fun v1 U =>
 (aD.cP [.aw]).wp K U (fun v2 U =>
 (aD.cP [.int .i64 0]).wp K U (fun v3 U =>
 (aD.cP [.int .i64 0]).wp K U (fun v4 U =>
 (ah aA v1 U).wp K U (fun ct U =>
 ae K 74 [ct] U (ag (fun bM U =>
 (aR bM 0).wp K U (fun dc U =>
 (aR bM 1).wp K U (fun cZ U =>
 (ar .neq aM true cZ (.int .i64 0)).wp K U (fun cL U =>
 av cL (
 (aJ aA v2 .aw U).wp K U (fun _ U =>
 (aJ aA v3 dc U).wp K U (fun _ U =>
 (aJ aA v4 cZ U).wp K U (fun _ U =>
 br aA v2 U fun r0 =>
 br aA v3 U fun r1 =>
 br aA v4 U fun r2 =>
 ak R (.aF [r0,r1,r2]) U) (aa R)) (aa R)) (aa R)) (
 (aD.cP [.aw]).wp K U (fun v7 U =>
 (ah aA v1 U).wp K U (fun dZ U =>
 ae K 76 [dZ,(.func (.func 75) [] [v7])] U (ag (fun eL U =>
 nq K 2 eL U (fun fM dK q U =>
 q.xU (fun U =>
 (ar .neq aM true dK (.str w_)).wp K U (fun dE U =>
 av dE (
 q.n U) (
 (ah aA v1 U).wp K U (fun v31 U =>
 (eI true none v31 (some fM) none).wp K U (fun eR U =>
 ae K 77 [eR] U (ag (fun gn U =>
 (aR gn 0).wp K U (fun gy U =>
 (aR gn 1).wp K U (fun gp U =>
 (aD.cP [.int .u8 0,.str [],.int .i64 0]).wp K U (fun v11 U =>
 (aJ (some (true,3)) v11 gy U).wp K U (fun _ U =>
 jx 7 (fun mE Hf n0 jV v9 BR v12 U =>
 (ar .neq aM true v12 (.int .i64 0)).wp K U (fun mc U =>
 av mc (
 (aJ aA mE .aw U).wp K U (fun _ U =>
 (aJ aA Hf v9 U).wp K U (fun _ U =>
 (aJ aA n0 v12 U).wp K U (fun _ U =>
 q.r U) (fun _ _=>False)) (fun _ _=>False)) (fun _ _=>False)) (
 (af (some 2) BR).wp K U (fun v49 U =>
 (aJ aA v49 v9 U).wp K U (fun _ U =>
 (ah aA jV U).wp K U (fun ig U =>
 (ah (some (true,3)) BR U).wp K U (fun v51 U =>
 (aq (some (51,3)) (some [.int .u8 0,.str [],.int .i64 0]) 1 false [(0,v51)]).wp K U (fun nO U =>
 (ez (some (51,3)) false ig nO U).wp K U (fun v53 U =>
 (aJ aA jV v53 U).wp K U (fun _ U =>
 q.n U) (fun _ _=>False)) (fun _ _=>False)) (fun _ _=>False)) (fun _ _=>False)) (fun _ _=>False)) (fun _ _=>False)) (fun _ _=>False))) (fun _ _=>False)) fun j =>
 (ar .eql aM true gp (.int .i64 0)).wp K U (fun iv U =>
 ai K (aH iv true) (ah aA v7 U) (fun v40 =>
 ai K (aH iv true) (cj (some false) v40) (fun jE =>
 ai K (aH iv true) (ar .eql aM true jE (.int .i64 900)) (fun jF =>
 (bp iv jF (.bool false)).wp K U (fun js U =>
 av js (
 j v2 v3 v4 v7 fM v11 (.int .i64 5) U) (
 j v2 v3 v4 v7 fM v11 gp U)) (fun _ _=>False))))) (fun _ _=>False)) (fun _ _=>False)) (fun _ _=>False)) (fun _ _=>False)) (fun _ _=>False)) (fun _ _=>False))) (fun _ _=>False)) (fun _ _=>False))) (fun _ _=>False)) U) (fun U =>
 (ah aA v7 U).wp K U (fun mP U =>
 (aJ aA v2 mP U).wp K U (fun _ U =>
 (aJ aA v3 (.int .i64 0) U).wp K U (fun _ U =>
 (aJ aA v4 (.int .i64 0) U).wp K U (fun _ U =>
 br aA v2 U fun oR =>
 br aA v3 U fun Ag =>
 br aA v4 U fun adQ =>
 ak R (.aF [oR,Ag,adQ]) U) (aa R)) (aa R)) (aa R)) (aa R)) (fun i U =>
 AM (Nat.beq i 0) (
 (ah aA v7 U).wp K U (fun Ld U =>
 (aJ aA v2 Ld U).wp K U (fun _ U =>
 (aJ aA v3 (.int .i64 0) U).wp K U (fun _ U =>
 (aJ aA v4 (.int .i64 0) U).wp K U (fun _ U =>
 br aA v2 U fun qg =>
 br aA v3 U fun Ah =>
 br aA v4 U fun adR =>
 ak R (.aF [qg,Ah,adR]) U) (aa R)) (aa R)) (aa R)) (aa R)) (
 False)) (fun U =>
 br aA v2 U fun Af =>
 br aA v3 U fun RD =>
 br aA v4 U fun adS =>
 ak R (.aF [Af,RD,adS]) U) (fun x U=>(aa R) x U)) (aa R))) (aa R)) (aa R))) (aa R)) (aa R)) (aa R)) (aa R))) (aa R)) (aa R)) (aa R)) (aa R)) (aa R)
def TG:Prop :=
 (dT a0).wp K U (fun v2 U =>
 (dT a1).wp K U (fun v3 U =>
 (ah (some (true,1)) v2 U).wp K U (fun v6 U =>
 (ah aA v3 U).wp K U (fun v7 U =>
 ae K 78 [v6,v7,(.func (.func 79) [] [v3])] U (ag (fun v9 U =>
 (aR v9 0).wp K U (fun v10 U =>
 (aR v9 1).wp K U (fun v11 U =>
 ak R (.aF [v10,v11]) U) (aa R)) (aa R)) (aa R))) (aa R)) (aa R)) (aa R)) (aa R)
def TH:Prop :=
 (dT a0).wp K U (fun v2 U =>
 (dT a1).wp K U (fun v3 U =>
 (ah (some (true,1)) v2 U).wp K U (fun v6 U =>
 ae K 82 [v6,(.int .i64 0),(.func (.func 83) [] [v3])] U (ag (fun v8 U =>
 (aR v8 0).wp K U (fun v9 U =>
 (aR v8 1).wp K U (fun v10 U =>
 ak R (.aF [v9,v10]) U) (aa R)) (aa R)) (aa R))) (aa R)) (aa R)) (aa R)
def TJ:Prop :=
 (cj (some false) a0).wp K U (fun v5 U =>
 (ar .gtr aM true v5 (.int .i64 1000)).wp K U (fun v6 U =>
 av v6 (
 ak R (.bool false) U) (
 eP 2 [a0,(.int .i64 0)] U fun lp v0 v3 U =>
 (cj (some false) v0).wp K U (fun v9 U =>
 (ar .lss aM false v3 v9).wp K U (fun v10 U =>
 av v10 (
 (aG (some (43,6)) none v0 v3).wp K U (fun bM U =>
 (af (some 1) bM).wp K U (fun dc U =>
 (ah aA dc U).wp K U (fun cZ U =>
 (cj (some true) cZ).wp K U (fun cm U =>
 (ar .gtr aM true cm (.int .i64 100)).wp K U (fun cL U =>
 av cL (
 ak R (.bool false) U) (
 (ar .add aM true v3 (.int .i64 1)).wp K U (fun v12 U =>
 lp v0 v12 U) (aa R))) (aa R)) (aa R)) (aa R)) (aa R)) (aa R)) (
 ak R (.bool true) U)) (aa R)) (aa R))) (aa R)) (aa R)
def Zr:Prop :=
 (dT a0).wp K U (fun v1 U =>
 jx 2 (fun jU v21 U =>
 av v21 (
 ae K 17 [] U (ag (fun dS U =>
 ak R dS U) (aa R))) (
 (ah (some (true,1)) jU U).wp K U (fun v24 U =>
 ae K 26 [v24] U (ag (fun eL U =>
 ae K 35 [eL,(.int .i64 0)] U (ag (fun fM U =>
 (aR fM 0).wp K U (fun dK U =>
 (aR fM 1).wp K U (fun v28 U =>
 (ar .neq aM true v28 (.int .i64 0)).wp K U (fun v30 U =>
 av v30 (
 ak R (.bool false) U) (
 (ah (some (true,1)) jU U).wp K U (fun eU U =>
 ae K 26 [eU] U (ag (fun eR U =>
 ae K 25 [eR] U (ag (fun gn U =>
 (aR gn 0).wp K U (fun gy U =>
 (aR gn 1).wp K U (fun gp U =>
 eP 6 [jU,dK,gy,gp,(.str w_),(.int .i64 0)] U fun lp pP v3 v5 v6 v7 v8 U =>
 (cj (some false) v3).wp K U (fun mO U =>
 (ar .lss aM false v8 mO).wp K U (fun v40 U =>
 av v40 (
 (fun ao:St =>
 ax K (aG (some (3,1)) none v3 v8) (fun mc =>
 ax K (ah aA mc ao) (fun v46 =>
 ax K (ar .lss aM true v46 (.int .i64 1)) (fun jt =>
 ai K (aH jt false) (aD.val v3) (fun v49 =>
 ai K (aH jt false) (aD.val v8) (fun ig =>
 ai K (aH jt false) (aG (some (3,1)) none v49 ig) (fun v51 =>
 ai K (aH jt false) (ah aA v51 ao) (fun nO =>
 ai K (aH jt false) (af (some 0) pP) (fun v53 =>
 ai K (aH jt false) (ah aA v53 ao) (fun mP =>
 ai K (aH jt false) (cj (some false) mP) (fun mf =>
 ai K (aH jt false) (ar .geq aM false nO mf) (fun pd =>
 ax K (bp jt (.bool true) pd) (fun nP =>
 av nP (
 ak R (.bool false) U) (
 (fun jy:St =>
 ax K (ah (some (true,1)) pP jy) (fun v59 =>
 ax K (af (some 0) pP) (fun ly =>
 ax K (ah aA ly jy) (fun sK =>
 ax K (aG (some (3,1)) none v3 v8) (fun pe =>
 ax K (ah aA pe jy) (fun yr =>
 ax K (aG (some (43,6)) none sK yr) (fun rj =>
 ax K (af (some 1) rj) (fun tD =>
 ax K (ah aA tD jy) (fun yu =>
 ae K 26 [v59] U (ag (fun va U=>cg ((cM tD++[])++((cM pe++[])++((cM ly++[])++((cM pP++[])++[])))) jy U /\
 ae K 37 [va,yu] U (ag (fun v70 U=>cg ((cM tD++[])++((cM pe++[])++((cM ly++[])++((cM pP++[])++[])))) jy U /\
 ax K (aR v70 0) (fun BY =>
 ax K (aR v70 1) (fun v72 =>
 (fun y6:St =>
 ax K (ar .neq aM true v72 (.int .i64 0)) (fun pg =>
 ai K (aH pg false) (aD.val BY) (fun v76 =>
 ai K (aH pg false) (aD.val v3) (fun zK =>
 ai K (aH pg false) (aD.val v8) (fun zL =>
 ai K (aH pg false) (aG (some (3,1)) none zK zL) (fun D6 =>
 ai K (aH pg false) (ah aA D6 y6) (fun v80 =>
 ai K (aH pg false) (ar .gtr aM false v76 v80) (fun Jg =>
 ax K (bp pg (.bool true) Jg) (fun zM =>
 ai K (aH zM false) (aD.val BY) (fun Z3 =>
 ai K (aH zM false) (ar .lss aM true Z3 (.int .i64 1)) (fun v85 =>
 ax K (bp zM (.bool true) v85) (fun oA =>
 ai K (aH oA false) (af (some 0) pP) (fun Z4 =>
 ai K (aH oA false) (ah aA Z4 y6) (fun PZ =>
 ai K (aH oA false) (aD.val BY) (fun Z5 =>
 ai K (aH oA false) (aG (some (43,6)) none PZ Z5) (fun v91 =>
 ai K (aH oA false) (af (some 1) v91) (fun P0 =>
 ai K (aH oA false) (ah aA P0 y6) (fun v93 =>
 ai K (aH oA false) (af (some 0) pP) (fun Z6 =>
 ai K (aH oA false) (ah aA Z6 y6) (fun Z7 =>
 ai K (aH oA false) (aD.val v3) (fun Jh =>
 ai K (aH oA false) (aD.val v8) (fun Um =>
 ai K (aH oA false) (aG (some (3,1)) none Jh Um) (fun v98 =>
 ai K (aH oA false) (ah aA v98 y6) (fun P3 =>
 ai K (aH oA false) (aG (some (43,6)) none Z7 P3) (fun K5 =>
 ai K (aH oA false) (af (some 1) K5) (fun G9 =>
 ai K (aH oA false) (ah aA G9 y6) (fun K6 =>
 ai K (aH oA false) (ar .neq aM false v93 K6) (fun Sm =>
 ax K (bp oA (.bool true) Sm) (fun Ha =>
 av Ha (
 ak R (.bool false) U) (
 (fun EL:St =>
 ax K (ah (some (true,1)) pP EL) (fun K7 =>
 ax K (aG (some (3,1)) none v3 v8) (fun Hb =>
 ax K (ah aA Hb EL) (fun Hc =>
 ae K 26 [K7] U (ag (fun v107 U=>cg ((cM Hb++[])++((cM pP++[])++[])) EL U /\
 ae K 28 [v107,Hc] U (ag (fun CR U=>cg ((cM Hb++[])++((cM pP++[])++[])) EL U /\
 ax K (aR CR 0) (fun ZK =>
 ax K (aR CR 1) (fun K9 =>
 (ar .neq aM true K9 (.int .i64 0)).wp K U (fun He U =>
 av He (
 (ar .eql aM false v6 K9).wp K U (fun ZL U =>
 ai K (aH ZL true) (aD.enter 17 []) (fun Sn =>
 (bp ZL Sn (.bool false)).wp K U (fun So U =>
 ak R So U) (aa R))) (aa R)) (
 (ar .add aM true ZK (.str lR)).wp K U (fun Sq U =>
 (ar .add aM false v7 Sq).wp K U (fun Sr U =>
 (ar .add aM true v8 (.int .i64 1)).wp K U (fun jF U =>
 lp pP v3 v5 v6 Sr jF U) (aa R)) (aa R)) (aa R))) (aa R)))) (aa R))) (aa R)))))) U)))))))))))))))))))))))))))))) U))) (aa R))) (aa R))))))))))) U)))))))))))))) U) (
 (ar .eql aM true v6 (.int .i64 0)).wp K U (fun CS U =>
 ai K (aH CS true) (aD.val v5) (fun v130 =>
 ai K (aH CS true) (aD.val v7) (fun v131 =>
 ai K (aH CS true) (ar .eql aM false v130 v131) (fun Ss =>
 (bp CS Ss (.bool false)).wp K U (fun qV U =>
 ai K (aH qV false) (aD.val v6) (fun Su =>
 ai K (aH qV false) (ar .eql aM true Su (.int .i64 5)) (fun Sv =>
 ai K (aH qV false) (aD.val Sv) (fun CT =>
 ai K (aH CT true) (aD.val v7) (fun v138 =>
 ai K (aH CT true) (cj (some true) v138) (fun v139 =>
 ai K (aH CT true) (ar .gtr aM true v139 (.int .i64 2500)) (fun ad7 =>
 ai K (aH qV false) (bp CT ad7 (.bool false)) (fun v141 =>
 (bp qV (.bool true) v141).wp K U (fun ZY U =>
 ai K (aH ZY true) (aD.enter 17 []) (fun ad8 =>
 (bp ZY ad8 (.bool false)).wp K U (fun v145 U =>
 ak R v145 U) (aa R))) (aa R))))))))) (aa R))))) (aa R))) (aa R)) (aa R)) (aa R)) (aa R)) (aa R))) (aa R))) (aa R))) (aa R)) (aa R)) (aa R)) (aa R))) (aa R))) (aa R))) fun j =>
 (ah (some (true,1)) v1 U).wp K U (fun cb U =>
 ae K 24 [cb] U (ag (fun ct U =>
 (jC .not ct).wp K U (fun bM U =>
 ai K (aH bM false) (ah (some (true,1)) v1 U) (fun cZ =>
 av (aH bM false) (
 ae K 26 [cZ] U (ag (fun cm U =>
 av (aH bM false) (
 ae K 30 [cm] U (ag (fun cL U =>
 ai K (aH bM false) (ar .neq aM true cL (.int .i64 0)) (fun v20 =>
 (bp bM (.bool true) v20).wp K U (fun ED U =>
 j v1 ED U) (aa R))) (aa R))) (
 ai K (aH bM false) (ar .neq aM true (.aF []) (.int .i64 0)) (fun BV =>
 (bp bM (.bool true) BV).wp K U (fun abO U =>
 j v1 abO U) (aa R)))) (aa R))) (
 av (aH bM false) (
 ae K 30 [(.aF [])] U (ag (fun EC U =>
 ai K (aH bM false) (ar .neq aM true EC (.int .i64 0)) (fun abM =>
 (bp bM (.bool true) abM).wp K U (fun abP U =>
 j v1 abP U) (aa R))) (aa R))) (
 ai K (aH bM false) (ar .neq aM true (.aF []) (.int .i64 0)) (fun abN =>
 (bp bM (.bool true) abN).wp K U (fun abQ U =>
 j v1 abQ U) (aa R)))))) (aa R)) (aa R))) (aa R)) (aa R)
def TA:Prop :=
 (dT a0).wp K U (fun v1 U =>
 (af (some 0) v1).wp K U (fun v3 U =>
 (ah aA v3 U).wp K U (fun v4 U =>
 ae K 49 [v4] U (ag (fun v5 U =>
 ak R v5 U) (aa R))) (aa R)) (aa R)) (aa R)
def TB:Prop :=
 (dT a0).wp K U (fun v1 U =>
 (ah (some (true,1)) v1 U).wp K U (fun v4 U =>
 ae K 28 [v4,(.int .i64 0)] U (ag (fun v5 U =>
 (aR v5 0).wp K U (fun v6 U =>
 (aR v5 1).wp K U (fun v7 U =>
 ak R (.aF [v6,v7]) U) (aa R)) (aa R)) (aa R))) (aa R)) (aa R)
def TC:Prop :=
 (dT a0).wp K U (fun v1 U =>
 (aD.cP [.aw]).wp K U (fun v2 U =>
 (af (some 0) v1).wp K U (fun v3 U =>
 (ah aA v3 U).wp K U (fun v4 U =>
 (ez (some (43,6)) true .aw v4 U).wp K U (fun v5 U =>
 (eh (some [(0,1)]) (some [.aw]) none [(0,v5)]).wp K U (fun v6 U =>
 (aJ (some (true,1)) v2 v6 U).wp K U (fun _ U =>
 br (some (true,1)) v2 U fun r0 =>
 ak R r0 U) (aa R)) (aa R)) (aa R)) (aa R)) (aa R)) (aa R)) (aa R)
def TD:Prop :=
 (dT a0).wp K U (fun v2 U =>
 (dT a1).wp K U (fun v3 U =>
 (ah (some (true,1)) v2 U).wp K U (fun v6 U =>
 (ah aA v3 U).wp K U (fun v7 U =>
 ae K 62 [v6,v7,(.func (.func 63) [] [v3])] U (ag (fun v9 U =>
 (aR v9 0).wp K U (fun v10 U =>
 (aR v9 1).wp K U (fun v11 U =>
 ak R (.aF [v10,v11]) U) (aa R)) (aa R)) (aa R))) (aa R)) (aa R)) (aa R)) (aa R)
end
section
variable {a0 a1 a2 a3 a4 a5 a6:AV} {R:cA->St->Prop} {U:St}
theorem RR (h:TK a0 R U):ae K 61 [a0] U R:=bD Tryz.f61 aaC h
theorem RS (h:TL a0 a1 a2 R U):ae K 62 [a0,a1,a2] U R:=bD Tryz.f62 aaD h
theorem RT (h:TM a0 a1 R U):ae K 63 [a0,a1] U R:=bD Tryz.f63 aaE h
theorem GR (h:KP a0 a1 R U):ae K 64 [a0,a1] U R:=bD Tryz.f64 aaF h
theorem RU (h:TN a0 R U):ae K 68 [a0] U R:=bD Tryz.f68 aaG h
theorem RV (h:TO a0 R U):ae K 69 [a0] U R:=bD Tryz.f69 aaH h
theorem RW (h:TP a0 R U):ae K 74 [a0] U R:=bD Tryz.f74 aaI h
theorem RX (h:TQ a0 a1 R U):ae K 75 [a0,a1] U R:=bD Tryz.f75 aaJ h
theorem RY (h:TR a0 a1 R U):ae K 76 [a0,a1] U R:=bD Tryz.f76 aaK h
theorem RZ (h:TS a0 R U):ae K 77 [a0] U R:=bD Tryz.f77 aaL h
theorem R0 (h:TT a0 a1 a2 R U):ae K 78 [a0,a1,a2] U R:=bD Tryz.f78 aaM h
theorem R1 (h:TU a0 a1 R U):ae K 79 [a0,a1] U R:=bD Tryz.f79 aaN h
theorem R2 (h:TV a0 R U):ae K 80 [a0] U R:=bD Tryz.f80 aaO h
theorem R3 (h:TW a0 a1 R U):ae K 81 [a0,a1] U R:=bD Tryz.f81 aaP h
theorem R4 (h:TX a0 a1 a2 R U):ae K 82 [a0,a1,a2] U R:=bD Tryz.f82 aaQ h
theorem R5 (h:TY a0 a1 R U):ae K 83 [a0,a1] U R:=bD Tryz.f83 aaR h
theorem R6 (h:TZ a0 R U):ae K 93 [a0] U R:=bD Tryz.f93 aaS h
theorem R7 (h:abJ a0 a1 R U):ae K 99 [a0,a1] U R:=bD Tryz.f99 aaT h
theorem NG (h:NF a0 a1 R U):ae K 100 [a0,a1] U R:=bD Tryz.f100 VQ h
theorem NH (h:Zg a0 R U):ae K 101 [a0] U R:=bD Tryz.f101 VR h
theorem NI (h:Zh a0 a1 R U):ae K 102 [a0,a1] U R:=bD Tryz.f102 VS h
theorem NL (h:NJ a0 a1 R U):ae K 103 [a0,a1] U R:=bD Tryz.f103 VT h
theorem NM (h:Zi a0 a1 R U):ae K 105 [a0,a1] U R:=bD Tryz.f105 VU h
theorem DS (h:GM a0 a1 a2 R U):ae K 106 [a0,a1,a2] U R:=bD Tryz.f106 VV h
theorem NO (h:NN a0 R U):ae K 109 [a0] U R:=bD Tryz.f109 VW h
theorem NQ (h:NP a0 a1 R U):ae K 121 [a0,a1] U R:=bD Tryz.f121 VX h
theorem NS (h:NR a0 a1 a2 R U):ae K 122 [a0,a1,a2] U R:=bD Tryz.f122 VY h
theorem NW (h:NU a0 a1 R U):ae K 123 [a0,a1] U R:=bD Tryz.f123 VZ h
theorem NY (h:NX a0 R U):ae K 124 [a0] U R:=bD Tryz.f124 V4 h
theorem N0 (h:NZ a0 a1 R U):ae K 125 [a0,a1] U R:=bD Tryz.f125 V5 h
theorem N2 (h:N1 a0 R U):ae K 126 [a0] U R:=bD Tryz.f126 V6 h
theorem N4 (h:N3 a0 a1 a2 R U):ae K 131 [a0,a1,a2] U R:=bD Tryz.f131 V7 h
theorem N6 (h:N5 a0 a1 R U):ae K 132 [a0,a1] U R:=bD Tryz.f132 V8 h
theorem N8 (h:N7 a0 a1 R U):ae K 133 [a0,a1] U R:=bD Tryz.f133 V9 h
theorem Oa (h:N9 a0 R U):ae K 146 [a0] U R:=bD Tryz.f146 Wa h
theorem Oc (h:Ob a0 a1 a2 R U):ae K 147 [a0,a1,a2] U R:=bD Tryz.f147 Wb h
theorem Od (h:Zj a0 a1 R U):ae K 148 [a0,a1] U R:=bD Tryz.f148 Wc h
theorem Of (h:Oe a0 R U):ae K 149 [a0] U R:=bD Tryz.f149 Wd h
theorem Oh (h:Og a0 R U):ae K 150 [a0] U R:=bD Tryz.f150 We h
theorem Oi (h:Zk a0 a1 R U):ae K 151 [a0,a1] U R:=bD Tryz.f151 Wf h
theorem Ok (h:Oj a0 R U):ae K 152 [a0] U R:=bD Tryz.f152 Wg h
theorem RM (h:TE a0 R U):ae K 30 [a0] U R:=bD Tryz.f30 aax h
theorem RN (h:TF a0 R U):ae K 33 [a0] U R:=bD Tryz.f33 aay h
theorem RO (h:TG a0 a1 R U):ae K 35 [a0,a1] U R:=bD Tryz.f35 aaz h
theorem RP (h:TH a0 a1 R U):ae K 37 [a0,a1] U R:=bD Tryz.f37 aaA h
theorem RQ (h:TJ a0 R U):ae K 49 [a0] U R:=bD Tryz.f49 aaB h
theorem Vq (h:Zr a0 R U):ae K 9 [a0] U R:=bD Tryz.f9 acD h
theorem RH (h:TA a0 R U):ae K 24 [a0] U R:=bD Tryz.f24 aat h
theorem RI (h:TB a0 R U):ae K 25 [a0] U R:=bD Tryz.f25 aau h
theorem RJ (h:TC a0 R U):ae K 26 [a0] U R:=bD Tryz.f26 aav h
theorem RL (h:TD a0 a1 R U):ae K 28 [a0,a1] U R:=bD Tryz.f28 aaw h
end
end Go.Rip
