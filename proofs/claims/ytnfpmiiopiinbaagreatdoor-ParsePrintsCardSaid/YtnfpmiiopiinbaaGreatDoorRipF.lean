/- Lemmas for the proof: no conditions. -/
import Derived.Test.YtnfpmiiopiinbaaGreatDoorRipZz
import Derived.Test.YtnfpmiiopiinbaaGreatDoorRipD
set_option linter.unusedVariables false
set_option linter.unusedSimpArgs false
set_option linter.loopingSimpArgs false
set_option maxRecDepth 100000
namespace Go.Rip
open Go.Proofs
def abL:An:=ak (aR (ak (ak (.cd (ak .z) .z))) (ak (ak .z)))
def abM:An:=ak (ak (aR (.bk (ak (.cd (ak .z) (ak (.cd (ak .z) .z))))) (aR (ak (ak (.cd (ak (ak .z)) .z))) (ak .z))))
def abN:An:=ak (ak .z)
def abO:An:=ak (aR (ak (.cd (aR (.rg [] [] (some ⟨[(true,0),(true,1),(true,2),(false,3),(true,4)],[⟨524288,4,0⟩,⟨1048576,0,0⟩,⟨2097152,1572864,3⟩,⟨4194304,2097152,4⟩,⟨64,4194304,15⟩]⟩)) (ak (ak .z))) .z)) (ak (aR (ak (.bk (.rf bu (.bk (ak (aR (ak (.cd (ak .z) .z)) bu)))))) (aR (ak (.cd (ak .z) .z)) (ak .z)))))
def abP:An:=ak (aR (ak (ak (.cd (ak .z) .z))) (aR (ak (.cd (ak .z) .z)) (ak .z)))
def abQ:An:=ak (ak (ak (ak .z)))
def abR:An:=ak (ak (aR (ak (.bk (.lp [0,1,5,6] (aR (ak (.cd .z .z)) (aR (.bk bu) bu))))) (ak .z)))
def abS:An:=ak (aR (aR (.rg [] [] (some ⟨[(true,0),(true,1),(true,2),(true,3),(true,4),(true,5),(true,6),(true,7),(true,8),(true,9),(true,10),(true,11),(true,12),(true,13),(true,14),(true,15),(true,16),(true,17),(true,18),(true,19),(true,20),(true,21),(true,22),(true,23),(true,24),(true,25),(true,26)],[⟨32,2,0⟩,⟨64,32,1⟩,⟨128,64,2⟩,⟨256,128,4⟩,⟨512,256,8⟩,⟨1024,512,16⟩,⟨2048,1026,32⟩,⟨4096,3072,96⟩,⟨8192,5120,160⟩,⟨16384,9216,288⟩,⟨32768,17408,544⟩,⟨65536,33792,1056⟩,⟨131072,66560,2080⟩,⟨262144,132096,4128⟩,⟨524288,262144,8224⟩,⟨1048576,524290,16384⟩,⟨2097152,1572864,49152⟩,⟨4194304,2621440,81920⟩,⟨8388608,4718592,147456⟩,⟨16777216,8912896,278528⟩,⟨33554432,17301504,540672⟩,⟨67108864,524290,16384⟩,⟨134217728,67633152,2113536⟩,⟨268435456,134742016,4210688⟩,⟨536870912,268959744,8404992⟩,⟨1073741824,570949632,17842176⟩,⟨2147483648,1074266112,33570816⟩]⟩)) (.cd (ak .z) .z)) (ak (aR (ak (.bk (.lp [1,3,36,37] (ak (aR (.cd .z .z) (aR (.bk (ak (ak (.cd (ak .z) .z)))) bu)))))) (ak .z))))
def abT:An:=aR (.rg [1,2] [] none) (aR (.rg [3] [] none) (aR (aR (.rg [7,8,9,10] [] none) (.bk (.lp [1,2,3,8,9,10] (aR (.rg [11] [] none) (aR (.cd .z .z) (aR (.bk (aR (.rg [4,5,12,13,14] [] none) (aR (.rg [3,15,16,17] [] none) (aR (aR (.rg [18,19,20] [] none) (.cd (aR (.rg [2] [] none) .z) .z)) (.rg [3,21,22,23,24,25,26,27] [] none))))) (.rg [10,28] [] none))))))) (aR (.rg [6] [] none) (aR (aR (.rg [29,30,31] [] none) (.bk (.rf .z (.bk (.rg [33,34] [] none))))) (aR (.rg [2,35,36] [] none) .z)))))
def abU:An:=ak (aR (ak (.cd (ak .z) .z)) (aR (ak (.bk (.lp [0,3] (aR (ak (.cd .z .z)) (aR (.bk (ak (.cd (ak .z) .z))) bu))))) (aR (ak (.bk (.lp [0,4] (aR (ak (.cd .z .z)) (aR (.bk (ak (aR (.bk (.lp [0,4,5] (aR (ak (.cd .z .z)) (.bk bu)))) (ak (.cd (ak .z) .z))))) bu))))) (ak .z))))
def abV:An:=ak (aR (aR (.rg [] [] (some ⟨[(true,0),(true,1),(true,2),(true,3),(true,4),(true,5),(true,6),(true,7),(true,8),(true,9),(true,10),(true,11),(true,12),(true,13),(true,14),(true,15),(true,16),(true,17)],[⟨8,2,0⟩,⟨16,8,1⟩,⟨32,16,2⟩,⟨64,2,0⟩,⟨128,64,8⟩,⟨256,128,16⟩,⟨512,288,36⟩,⟨1024,512,68⟩,⟨2048,1026,128⟩,⟨4096,3072,384⟩,⟨8192,5120,640⟩,⟨16384,9216,1152⟩,⟨32768,16386,2048⟩,⟨65536,49152,6144⟩,⟨131072,81920,10240⟩,⟨262144,147456,18432⟩,⟨524288,279552,34944⟩,⟨1048576,525312,65664⟩]⟩)) (.cd (ak .z) .z)) (aR (aR (.rg [] [136,137] none) (.cd (ak .z) .z)) (aR (.rg [] [137] none) .z)))
def abW:An:=ak (ak (aR (ak (.bk (ak (.cd (ak .z) (.sq (some [1,5,8,13]) (ak (.cd .z bu)) (.cd (aR (.rg [] [139] none) .z) (.sq (some [1,5,8,24]) (ak (.cd .z bu)) (.cd (aR (.rg [] [140,141,142] none) .z) (ak (.cd (aR (.rg [] [143] none) .z) (ak (.cd (aR (.rg [] [144] none) .z) (ak (.cd (aR (.rg [] [144] none) .z) (.sq (some [1,5,8,76]) (ak (.cd .z (ak (.cd .z (ak (.cd .z (ak (.cd .z (ak (.cd .z (ak (.cd .z (ak (.cd .z (ak (.cd .z (ak (.cd .z bu)))))))))))))))))) (.cd (aR (.rg [] [144] none) .z) (.sq (some [1,5,8,93]) (ak (.cd .z (ak (.cd .z (ak (.cd .z (ak (.cd .z bu)))))))) (.cd (aR (.rg [] [144] none) .z) (ak (.cd (aR (.rg [] [145] none) .z) (ak (.cd (aR (.rg [] [140,142] none) .z) (ak (.cd (aR (.rg [] [142] none) .z) (.sq (some [5,154]) (ak (.cd .z (ak (.cd .z (ak (.cd .z (ak (.cd .z (ak (.cd .z (ak (.cd .z (ak (.cd .z (ak (.cd .z (ak (.cd .z (ak (.cd .z bu)))))))))))))))))))) (.cd (ak .z) .z)))))))))))))))))))))))))) (ak .z)))
def abX:An:=aR (.rg [2] [] none) (aR (.rg [3,7,8,9] [] none) (aR (aR (.rg [4] [] none) (.bk (.lp [0,3,4] (aR (aR (.rg [10,11,12,13] [] none) (.cd .z .z)) (aR (.bk (aR (.rg [5,16,17,18] [] none) (aR (.rg [6] [] none) (.bk (.lp [0,3,4,5,6] (aR (aR (.rg [19,20,21,22] [] none) (.cd .z .z)) (aR (.bk (.rg [25,26,27,28,29,30,31,32,33,34,35] [] (some ⟨[(true,0),(true,1),(true,2),(true,3),(true,4),(true,5),(true,6),(true,7),(true,8),(true,9),(true,10),(false,11)],[⟨33554432,8,0⟩,⟨67108864,32,0⟩,⟨134217728,64,0⟩,⟨268435456,201326592,6⟩,⟨536870912,268435456,8⟩,⟨1073741824,8,0⟩,⟨2147483648,16,0⟩,⟨4294967296,3221225472,96⟩,⟨8589934592,4294967296,128⟩,⟨17179869184,8589934592,256⟩,⟨34359738368,570425344,1023⟩,⟨0,51539607552,2047⟩]⟩))) (.rg [6,23,24] [] none)))))))) (.rg [4,14,15] [] none)))))) (aR (.rg [2,36] [] none) .z)))
def abY:An:=ak (aR (ak (.cd (ak .z) .z)) (aR (ak (.bk (.lp [0,9,10] (ak (aR (.cd .z .z) (aR (.bk (ak (ak (.cd (ak .z) .z)))) bu)))))) (ak .z)))
def abZ:An:=ak (ak .z)
def ab0:An:=ak (ak .z)
def ab1:An:=ak (ak (aR (.bk (ak (.cd (ak .z) (ak (.cd (ak .z) (ak (.cd (ak .z) (ak (.cd (ak .z) (ak (.cd (ak .z) .z))))))))))) (ak .z)))
def ab2:An:=ak (aR (.rg [] [] (some ⟨[(true,0),(true,1),(true,2),(true,3),(true,4),(true,5),(true,6),(true,7),(true,8),(false,9),(false,10)],[⟨64,8,0⟩,⟨128,4,0⟩,⟨256,128,2⟩,⟨512,256,4⟩,⟨1024,8,0⟩,⟨2048,1536,24⟩,⟨4096,2048,32⟩,⟨8192,4096,64⟩,⟨16384,8256,129⟩,⟨32,0,0⟩,⟨0,16416,1023⟩]⟩)) (ak .z))
def ab3:An:=ak (aR (ak (.cd (ak .z) .z)) (aR (ak (.bk (.lp [8,9,10] (ak (aR (.cd .z .z) (aR (.bk (ak (ak (.cd (ak .z) .z)))) bu)))))) (ak .z)))
def Xz:An:=ak (aR (ak (.cd (ak .z) .z)) (aR (ak (.bk (.lp [0,4] (aR (ak (.cd .z .z)) (aR (.bk (ak (.cd (ak .z) .z))) bu))))) (ak .z)))
def XA:An:=ak (ak (ak (aR (.bk (.lp [0,6,7,8] (aR (ak (.cd .z .z)) (.bk (aR (ak (.cd (ak .z) .z)) (aR (ak (.cd (ak (ak (ak .z))) .z)) (ak (.sq (some [0,6,7,8,10,11]) (ak (.cd bu .z)) (aR (ak (.cd (ak .z) .z)) (ak bu)))))))))) (ak .z))))
def XB:An:=ak (ak .z)
def XC:An:=ak (ak (aR (ak (.bk (.rf bu (.bk bu)))) (.bk (ak (.cd bu (ak (.cd bu (ak (.cd bu (ak (.cd bu (ak (.cd bu bu)))))))))))))
def XD:An:=ak (aR (ak (ak (.cd (ak .z) .z))) (ak (aR (ak (.bk (.lp [0,5,13,14,15] (ak (aR (.cd .z .z) (aR (.bk (ak (.sq (some [0,5,7,13,14,15]) (aR (.rg [] [] (some ⟨[(true,0),(true,1),(true,2),(true,3),(true,4),(true,5),(true,6),(true,7),(true,8),(true,9),(true,10)],[⟨1048576,64,0⟩,⟨2097152,1048576,1⟩,⟨4194304,2097152,2⟩,⟨8388608,4194305,4⟩,⟨16777216,4194368,4⟩,⟨33554432,20971520,20⟩,⟨67108864,46137344,44⟩,⟨134217728,71303168,68⟩,⟨268435456,4194432,4⟩,⟨536870912,406847488,388⟩,⟨1073741824,541065216,516⟩]⟩)) (.cd bu .z)) bu))) bu)))))) (aR (ak (.cd (ak .z) .z)) (ak .z)))))
def XE:An:=ak (ak (ak (ak .z)))
def XF:An:=ak (ak .z)
def XG:An:=ak (ak (.bk (ak (.cd bu (ak (.cd (ak bu) (ak (.cd bu (ak (.cd (ak (.bk (.lp [0,5,6] (aR (ak (.cd .z .z)) (aR (.bk (.sq (some [0,5,6]) (ak (.cd bu .z)) bu)) bu))))) (ak (.cd bu (ak (.cd bu bu))))))))))))))
def XH:An:=ak (aR (ak (ak (.cd (ak .z) .z))) (ak (aR (ak (.bk (.lp [0,5,6] (aR (ak (.cd .z .z)) (aR (.bk (.sq (some [0,5,6]) (aR (.rg [] [] (some ⟨[(true,0),(true,1),(true,2),(true,3),(true,4),(true,5),(true,6),(true,7),(true,8),(true,9),(true,10),(true,11),(true,12),(true,13)],[⟨262144,64,0⟩,⟨524288,262144,1⟩,⟨1048576,524288,2⟩,⟨2097152,1048577,4⟩,⟨4194304,1048640,4⟩,⟨8388608,5242880,20⟩,⟨16777216,11534336,44⟩,⟨33554432,17825792,68⟩,⟨67108864,1048577,4⟩,⟨134217728,1048640,4⟩,⟨268435456,202375168,772⟩,⟨536870912,269484032,1028⟩,⟨1073741824,571473920,2180⟩,⟨2147483648,1074790400,4100⟩]⟩)) (.cd bu .z)) bu)) bu))))) (aR (ak (.cd (ak .z) .z)) (ak .z)))))
def XI:An:=ak (ak (ak (aR (aR (.rg [] [122,208] none) (.cd (ak .z) .z)) (aR (aR (.rg [] [122] none) (.cd (ak .z) .z)) (ak (ak (aR (ak (.bk (.rf bu (.bk (aR (.rg [] [] (some ⟨[(true,0),(true,1),(true,2),(true,3),(true,4),(true,5),(true,6),(true,7),(true,8),(false,9),(false,10)],[⟨19807040628566084398385987584,1024,0⟩,⟨39614081257132168796771975168,8,0⟩,⟨79228162514264337593543950336,39614081257132168796771975168,2⟩,⟨158456325028528675187087900672,79228162514264337593543950336,4⟩,⟨316912650057057350374175801344,4096,0⟩,⟨633825300114114700748351602688,475368975085586025561263702016,24⟩,⟨1267650600228229401496703205376,633825300114114700748351602688,32⟩,⟨2535301200456458802993406410752,1267650600228229401496703205376,64⟩,⟨5070602400912917605986812821504,2535301200456458802993406410752,128⟩,⟨10141204801825835211973625643008,5090409441541483690385198809088,257⟩,⟨0,10141204801825835211973625644032,1023⟩]⟩)) (aR (aR (.rg [] [] (some ⟨[(true,0),(true,1),(true,2),(true,3),(true,4),(true,5),(true,6),(true,7),(true,8),(true,9),(true,10),(true,11),(true,12),(true,13),(true,14)],[⟨20282409603651670423947251286016,16,0⟩,⟨40564819207303340847894502572032,128,0⟩,⟨81129638414606681695789005144064,40564819207303340847894502572032,2⟩,⟨162259276829213363391578010288128,101412048018258352119736256430080,5⟩,⟨324518553658426726783156020576256,4096,0⟩,⟨649037107316853453566312041152512,486777830487640090174734030864384,24⟩,⟨1298074214633706907132624082305024,8,0⟩,⟨2596148429267413814265248164610048,1298074214633706907132624082305024,64⟩,⟨5192296858534827628530496329220096,2596148429267413814265248164610048,128⟩,⟨10384593717069655257060992658440192,4096,0⟩,⟨20769187434139310514121985316880384,15576890575604482885591488987660288,768⟩,⟨41538374868278621028243970633760768,20769187434139310514121985316880384,1024⟩,⟨83076749736557242056487941267521536,41538374868278621028243970633760768,2048⟩,⟨166153499473114484112975882535043072,83725786843874095510054253308674048,4128⟩,⟨332306998946228968225951765070086144,166153499473114484112975882535043072,8192⟩]⟩)) (.cd (ak .z) .z)) bu)))))) (ak .z))))))))
def XJ:An:=ak (ak (aR (ak (.cd (ak .z) .z)) (aR (ak (.bk (.lp [0,1,5,6] (aR (ak (.cd .z .z)) (.sq (some [0,1,5,6]) (.bk (ak (ak (.cd (ak bu) .z)))) bu))))) (ak (ak .z)))))
def XK:An:=ak (ak .z)
def XL:An:=ak (aR (ak (.bk (.sq (some [4]) (ak (.cd .z (ak (.cd .z (ak (.cd .z (ak (.cd .z (ak (.cd .z (ak (.cd .z (ak (.cd .z (ak (.cd .z (ak (.cd .z (ak (.cd .z (ak (.cd .z (ak (.cd .z bu)))))))))))))))))))))))) (.cd (ak .z) .z)))) (ak .z))
def XM:An:=ak (ak .z)
def XN:An:=ak (ak .z)
def XO:An:=ak (ak .z)
def XP:An:=ak (aR (ak (.bk (.lp [0,3] (aR (ak (.cd .z .z)) (aR (.bk (ak (.cd (ak .z) .z))) bu))))) (ak .z))
def XQ:An:=ak (ak .z)
def XR:An:=ak (aR (ak (.bk (.lp [0,1,5] (aR (ak (.cd .z .z)) (aR (.bk (ak (.cd (ak .z) .z))) bu))))) (ak .z))
def XS:An:=ak (ak .z)
def XT:An:=ak (ak .z)
def XU:An:=ak (aR (ak (.bk (.lp [0,3] (aR (ak (.cd .z .z)) (aR (.bk (ak (.cd (ak .z) .z))) bu))))) (ak .z))
def XV:An:=ak (aR (ak (.bk (.lp [0,3] (aR (ak (.cd .z .z)) (aR (.bk (ak (.cd (ak .z) .z))) bu))))) (ak .z))
def XW:An:=ak (aR (ak (.bk (.lp [0,3] (aR (ak (.cd .z .z)) (aR (.bk (ak (.cd (ak .z) .z))) bu))))) (ak .z))
def XX:An:=ak (ak .z)
def XY:An:=ak (.bk (.lp [0,1,2,4] (aR (ak (.cd .z .z)) (.bk (ak (.bk (.sq (some [0,1,2,4,14,24]) (ak (.cd .z bu)) (.cd bu (ak (.cd (ak (aR (ak (.cd .z .z)) bu)) (aR (ak (.cd .z .z)) bu)))))))))))
def XZ:An:=ak (ak .z)
def X0:An:=ak (aR (.bk (.lp [0,2] (aR (aR (.rg [] [151] none) (.cd .z .z)) (.bk bu)))) (ak .z))
def X1:An:=ak (aR (ak (.bk (.lp [0,2,6,7] (ak (aR (.cd .z .z) (aR (.bk (ak (ak (.cd (ak .z) .z)))) bu)))))) (aR (aR (.rg [] [214] none) (.cd (ak .z) .z)) (ak .z)))
def X2:An:=ak (ak .z)
def X3:An:=ak (ak (aR (ak (.bk (.lp [0,3,6,7] (ak (aR (.cd .z .z) (aR (.bk (ak (aR (ak (.cd (ak .z) .z)) bu))) bu)))))) (aR (.bk (ak (.cd (ak .z) (ak (.cd (ak .z) .z))))) (ak .z))))
def abG:An:=ak (aR (ak (ak (.cd (ak .z) .z))) (aR (ak (.cd (ak .z) .z)) (ak (ak (aR (ak (.bk (.lp [2,7,8,9] (aR (ak (.cd .z .z)) (aR (.bk (aR (.rg [] [] (some ⟨[(true,0),(true,1),(true,2),(true,3),(true,4),(true,5),(false,6),(true,7),(true,8),(true,9),(true,10),(true,11)],[⟨68719476736,4,0⟩,⟨137438953472,68719476736,1⟩,⟨274877906944,256,0⟩,⟨549755813888,512,0⟩,⟨1099511627776,824633720832,12⟩,⟨2199023255552,1099511627776,16⟩,⟨4398046511104,2336462209024,34⟩,⟨34359738368,4398046511104,64⟩,⟨8796093022208,34359738368,128⟩,⟨17592186044416,34359738368,128⟩,⟨1024,8796093022208,511⟩,⟨2048,17592186044416,2047⟩]⟩)) (aR (ak (.cd (ak .z) .z)) bu))) bu))))) (aR (ak (.cd (ak .z) .z)) (ak .z)))))))
def abH:An:=ak (aR (.bk (ak (.cd (ak .z) (ak (.cd (ak .z) (ak (.cd (ak .z) .z))))))) (ak .z))
def abI:An:=ak (ak (aR (ak (.cd (ak .z) .z)) (aR (ak (.cd (ak .z) .z)) (aR (ak (.bk (.lp [3,4] (aR (ak (.cd .z .z)) (aR (.bk (ak (ak (aR (ak (.bk (.lp [3,4,5,6,7] (aR (ak (.cd .z .z)) (aR (.bk bu) bu))))) (aR (.rg [] [71,72] none) (.cd (ak .z) .z)))))) bu))))) (ak (aR (ak (.bk (.lp [3,8,9] (aR (ak (.cd .z .z)) (aR (.bk (ak (.cd (ak .z) .z))) bu))))) (aR (ak (.cd (ak .z) .z)) (ak .z))))))))
def abJ:An:=ak (aR (ak (ak (.cd (ak .z) .z))) (ak (ak (aR (ak (.bk (.rf (ak bu) (.bk (aR (ak (.cd .z .z)) (ak (.sq (some [2,3,4,7,9,11,12]) (ak (.cd bu .z)) (aR (ak (.cd (ak .z) .z)) (ak bu))))))))) (ak .z)))))
def abK:An:=ak (aR (ak (.cd (ak .z) .z)) (aR (ak (.bk (.lp [0,3] (aR (ak (.cd .z .z)) (aR (.bk (ak (.cd (ak .z) .z))) bu))))) (ak .z)))
def adY:An:=ak (aR (ak (.cd (ak .z) .z)) (ak (ak (ak (ak (aR (.rg [] [] (some ⟨[(true,0),(true,3),(false,1),(false,2),(false,4),(true,5),(true,6),(true,7),(true,8),(true,9),(true,10),(true,11),(true,12),(true,13),(true,14),(true,15),(true,16),(true,17),(true,18),(true,19),(true,20),(true,21),(true,22),(true,23),(true,24),(true,25),(true,26),(true,27),(true,28),(true,29)],[⟨2199023255552,4,0⟩,⟨4398046511104,2199023255552,1⟩,⟨8796093022208,4398046511104,2⟩,⟨17592186044416,4,0⟩,⟨35184372088832,17592186044416,12⟩,⟨70368744177664,43980465111040,20⟩,⟨140737488355328,70368744177664,48⟩,⟨281474976710656,140737488355392,64⟩,⟨562949953421312,140737488355584,64⟩,⟨1125899906842624,985162418487296,448⟩,⟨2251799813685248,1266637395197952,576⟩,⟨4503599627370496,2251799813685248,1088⟩,⟨9007199254740992,4503599627370528,2048⟩,⟨18014398509481984,4503599627370624,2048⟩,⟨36028797018963968,31525197391593472,14336⟩,⟨72057594037927936,40532396646334464,18432⟩,⟨144115188075855872,72057594037927936,34816⟩,⟨288230376151711744,144115188075856896,65536⟩,⟨576460752303423488,144115188075859968,65536⟩,⟨1152921504606846976,1008806316530991104,458752⟩,⟨2305843009213693952,1297036692682702848,589824⟩,⟨4611686018427387904,2305843009213693952,1114112⟩,⟨9223372036854775808,4611686018427388416,2097152⟩,⟨18446744073709551616,4611686018427389952,2097152⟩,⟨36893488147419103232,32281802128991715328,14680064⟩,⟨73786976294838206464,41505174165846491136,18874368⟩,⟨147573952589676412928,73786976294838206464,35651584⟩,⟨295147905179352825856,147573952589676412928,67108864⟩,⟨590295810358705651712,442721857769029238784,201326592⟩,⟨16,590295810358705651712,536870911⟩]⟩)) .z))))))
def abB:An:=ak (ak .z)
def abC:An:=ak (ak .z)
def abD:An:=aR (.rg [1,2] [] none) (aR (.rg [3,4,5,6] [] none) .z)
def abE:An:=ak (ak .z)
def abF:An:=ak (ak .z)
section
variable (a0 a1 a2 a3 a4 a5 a6:AV) (R:cO->St->Prop) (U:St)
def Vu:Prop :=
 ag K 111 [a0] U (aq (fun bP U =>
 (aV bP 0).wp K U (fun bK U =>
 (aV bP 1).wp K U (fun bj U =>
 (ai .neq av true bj (.int .i64 0)).wp K U (fun bW U =>
 ao bW (
 aj R (.aG [.aA,bK,bj]) U) (
 ag K 112 [a0] U (aq (fun cw U =>
 (aV cw 0).wp K U (fun dp U =>
 (aV cw 1).wp K U (fun v24 U =>
 (aV cw 2).wp K U (fun dE U =>
 (aV cw 3).wp K U (fun er U =>
 aj R (.aG [dp,dE,er]) U) (aa R)) (aa R)) (aa R)) (aa R)) (aa R)))) (aa R)) (aa R)) (aa R)) (aa R))
def Vv:Prop :=
 (eO a0).wp K U (fun v3 U =>
 (ah (some (true,1)) v3 U).wp K U (fun v9 U =>
 ag K 30 [v9] U (aq (fun v10 U =>
 (ai .neq av true v10 (.int .i64 0)).wp K U (fun bP U =>
 ao bP (
 aj R (.aG [(.str w_),v10]) U) (
 (ae (some 0) v3).wp K U (fun bW U =>
 (ah aD bW U).wp K U (fun bY U =>
 (br (some false) bY).wp K U (fun bS U =>
 (ai .sub av true bS (.int .i64 1)).wp K U (fun v20 U =>
 ag K 122 [(.int .i64 0),v20,a1] U (aq (fun cw U =>
 (hY .not cw).wp K U (fun dp U =>
 ao dp (
 aj R (.aG [(.str w_),(.int .i64 3)]) U) (
 (ah (some (true,1)) v3 U).wp K U (fun dq U =>
 (ee (some [(0,1)]) (some [.aA]) none [(0,dq)]).wp K U (fun v28 U =>
 (jW K.P a2 [v28]).wp K U (fun cJ U =>
 (aV cJ 0).wp K U (fun v30 U =>
 (aV cJ 1).wp K U (fun v31 U =>
 (ai .neq av true v31 (.int .i64 0)).wp K U (fun dJ U =>
 ao dJ (
 aj R (.aG [(.str w_),v31]) U) (
 aj R (.aG [v30,(.int .i64 0)]) U)) (aa R)) (aa R)) (aa R)) (aa R)) (aa R)) (aa R))) (aa R)) (aa R))) (aa R)) (aa R)) (aa R)) (aa R))) (aa R)) (aa R))) (aa R)) (aa R)
def Vw:Prop :=
 (eO a0).wp K U (fun v2 U =>
 (ah (some (true,1)) v2 U).wp K U (fun v5 U =>
 (ah aD a1 U).wp K U (fun v6 U =>
 ag K 64 [v5,v6] U (aq (fun v7 U =>
 (aV v7 0).wp K U (fun v8 U =>
 (aV v7 1).wp K U (fun v9 U =>
 aj R (.aG [v8,v9]) U) (aa R)) (aa R)) (aa R))) (aa R)) (aa R)) (aa R)
def Mr:Prop :=
 (eO a0).wp K U (fun v2 U =>
 (ay.db [.str []]).wp K U (fun v4 U =>
 (ay.db [.int .i64 0]).wp K U (fun v5 U =>
 (ae (some 0) v2).wp K U (fun v11 U =>
 (ae (some 0) v11).wp K U (fun v12 U =>
 (ah aD v12 U).wp K U (fun bP U =>
 (au (some (43,6)) none bP a1).wp K U (fun bj U =>
 (ae (some 0) bj).wp K U (fun cA U =>
 (ah aD cA U).wp K U (fun bW U =>
 (ai .neq av true bW (.int .u8 1)).wp K U (fun bY U =>
 ao bY (
 (fun aw:St =>
 aF K (ah (some (true,1)) v2 aw) (fun bS =>
 aF K (ay.enter 96 []) (fun v20 =>
 aF K (ee (some [(0,1),(1,1),(2,1)]) (some [.aA,.aA,.lr]) none [(0,bS),(2,v20)]) (fun v21 =>
 (eO v21).wp K U (fun cw U=>cL ((dK v2++[])++[]) aw U /\
 ag K 123 [cw,a1] U (aq (fun dE U =>
 (bR cw).wp K U (fun dq U =>
 (ae (some 1) dq).wp K U (fun v28 U =>
 (ah aD v28 U).wp K U (fun cJ U =>
 ag K 124 [cJ] U (aq (fun v30 U =>
 (aV v30 0).wp K U (fun v31 U =>
 (aV v30 1).wp K U (fun et U =>
 (aU aD v4 v31 U).wp K U (fun _ U =>
 (aU aD v5 et U).wp K U (fun _ U =>
 bF aD v4 U fun r0 =>
 bF aD v5 U fun r1 =>
 aj R (.aG [r0,r1]) U) (aa R)) (aa R)) (aa R)) (aa R)) (aa R))) (aa R)) (aa R)) (aa R)) (aa R))) (aa R))))) U) (
 (ay.new .box none (.sK 158 [.bU,.aA])).wp K U (fun v7 U =>
 (ah (some (true,1)) v2 U).wp K U (fun dJ U =>
 ag K 81 [dJ,a1] U (aq (fun eN U =>
 qt K 1 eN U (fun fH q U =>
 q.CQ (fun U =>
 (ah (some (true,1)) v2 U).wp K U (fun gL U =>
 ag K 64 [gL,fH] U (aq (fun v40 U =>
 (aV v40 0).wp K U (fun eY U =>
 (aV v40 1).wp K U (fun iu U =>
 (ai .neq av true iu (.int .i64 0)).wp K U (fun jZ U =>
 ao jZ (
 (aU aD v4 (.str w_) U).wp K U (fun _ U =>
 (aU aD v5 iu U).wp K U (fun _ U =>
 q.r U) (fun _ _=>False)) (fun _ _=>False)) (
 (ai .add av true eY (.str mW)).wp K U (fun iL U =>
 ag K 125 [v7,iL] U (aq (fun hZ U =>
 q.n U) (fun _ _=>False))) (fun _ _=>False))) (fun _ _=>False)) (fun _ _=>False)) (fun _ _=>False)) (fun _ _=>False))) (fun _ _=>False)) U) (fun U =>
 ag K 126 [v7] U (aq (fun v49 U =>
 (ai .gtr av true v49 (.int .i64 2500)).wp K U (fun fJ U =>
 ao fJ (
 (aU aD v4 (.str w_) U).wp K U (fun _ U =>
 (aU aD v5 (.int .i64 5) U).wp K U (fun _ U =>
 bF aD v4 U fun qT =>
 bF aD v5 U fun HZ =>
 aj R (.aG [qT,HZ]) U) (aa R)) (aa R)) (
 ag K 127 [v7] U (aq (fun v51 U =>
 (aU aD v4 v51 U).wp K U (fun _ U =>
 (aU aD v5 (.int .i64 0) U).wp K U (fun _ U =>
 bF aD v4 U fun qU =>
 bF aD v5 U fun H0 =>
 aj R (.aG [qU,H0]) U) (aa R)) (aa R)) (aa R)))) (aa R)) (aa R))) (fun i U =>
 GO (Nat.beq i 0) (
 ag K 126 [v7] U (aq (fun MD U =>
 (ai .gtr av true MD (.int .i64 2500)).wp K U (fun AD U =>
 ao AD (
 (aU aD v4 (.str w_) U).wp K U (fun _ U =>
 (aU aD v5 (.int .i64 5) U).wp K U (fun _ U =>
 bF aD v4 U fun xE =>
 bF aD v5 U fun Ti =>
 aj R (.aG [xE,Ti]) U) (aa R)) (aa R)) (
 ag K 127 [v7] U (aq (fun adp U =>
 (aU aD v4 adp U).wp K U (fun _ U =>
 (aU aD v5 (.int .i64 0) U).wp K U (fun _ U =>
 bF aD v4 U fun BK =>
 bF aD v5 U fun ae5 =>
 aj R (.aG [BK,ae5]) U) (aa R)) (aa R)) (aa R)))) (aa R)) (aa R))) (
 False)) (fun U =>
 bF aD v4 U fun xF =>
 bF aD v5 U fun ae6 =>
 aj R (.aG [xF,ae6]) U) (fun x U=>(aa R) x U)) (aa R))) (aa R)) (aa R))) (aa R)) (aa R)) (aa R)) (aa R)) (aa R)) (aa R)) (aa R)) (aa R)) (aa R)) (aa R)
def Vx:Prop :=
 (eO a0).wp K U (fun v2 U =>
 (ah (some (true,1)) v2 U).wp K U (fun v6 U =>
 ag K 31 [v6] U (aq (fun v7 U =>
 (ai .neq av true v7 (.int .i64 0)).wp K U (fun v9 U =>
 ao v9 (
 aj R v7 U) (
 (ai .lss av true a1 (.int .i64 0)).wp K U (fun v12 U =>
 ad K (ar v12 false) (ay.val a1) (fun bK =>
 ad K (ar v12 false) (ae (some 0) v2) (fun bj =>
 ad K (ar v12 false) (ah aD bj U) (fun cA =>
 ad K (ar v12 false) (br (some false) cA) (fun bW =>
 ad K (ar v12 false) (ai .geq av false bK bW) (fun bY =>
 (aO v12 (.bool true) bY).wp K U (fun bS U =>
 ao bS (
 aj R (.int .i64 3) U) (
 aj R (.int .i64 0) U)) (aa R))))))) (aa R))) (aa R)) (aa R))) (aa R)) (aa R)
def Vy:Prop :=
 (ee (some [(0,1),(1,1)]) (some [.aA,.aA]) none [(0,a0)]).wp K U (fun v8 U =>
 (eO v8).wp K U (fun v9 U =>
 ag K 128 [v9,a1] U (aq (fun v12 U =>
 (bR v9).wp K U (fun bK U =>
 (ae (some 1) bK).wp K U (fun bj U =>
 (ah aD bj U).wp K U (fun cA U =>
 ag K 129 [cA] U (aq (fun bW U =>
 (aV bW 0).wp K U (fun bY U =>
 (aV bW 1).wp K U (fun bS U =>
 aj R (.aG [bY,bS]) U) (aa R)) (aa R)) (aa R))) (aa R)) (aa R)) (aa R)) (aa R))) (aa R)) (aa R)
def Vz:Prop :=
 (ai .add av true a1 (.int .i64 1)).wp K U (fun v8 U =>
 di 4 [a0,a1,.aA,v8] U fun lp v0 v1 v5 v6 U =>
 (au (some (43,6)) none v0 v1).wp K U (fun bP U =>
 (ae (some 5) bP).wp K U (fun bK U =>
 (ah aD bK U).wp K U (fun bj U =>
 (ai .add av false v1 bj).wp K U (fun cA U =>
 (ai .lss av false v6 cA).wp K U (fun bW U =>
 ao bW (
 (aJ (some (3,1)) (some [.int .i64 0]) 1 false [(0,v6)]).wp K U (fun dq U =>
 (eu (some (3,1)) false v5 dq U).wp K U (fun v28 U =>
 (au (some (43,6)) none v0 v6).wp K U (fun v21 U =>
 (ae (some 5) v21).wp K U (fun cw U =>
 (ah aD cw U).wp K U (fun dp U =>
 (ai .add av false v6 dp).wp K U (fun v24 U =>
 lp v0 v1 v28 v24 U) (aa R)) (aa R)) (aa R)) (aa R)) (aa R)) (aa R)) (
 aj R v5 U)) (aa R)) (aa R)) (aa R)) (aa R)) (aa R)) (aa R)
def VA:Prop :=
 (eO a0).wp K U (fun v1 U =>
 (fun aw:St =>
 aF K (ae (some 0) v1) (fun v5 =>
 aF K (ae (some 0) v5) (fun v6 =>
 aF K (ah aD v6 aw) (fun v7 =>
 aF K (br (some false) v7) (fun v8 =>
 aF K (ai .eql av true v8 (.int .i64 0)) (fun v9 =>
 ad K (ar v9 false) (ae (some 0) v1) (fun v11 =>
 ad K (ar v9 false) (ae (some 0) v11) (fun v12 =>
 ad K (ar v9 false) (ah aD v12 aw) (fun bP =>
 ad K (ar v9 false) (au (some (43,6)) none bP (.int .i64 0)) (fun bK =>
 ad K (ar v9 false) (ae (some 0) bK) (fun bj =>
 ad K (ar v9 false) (ah aD bj aw) (fun cA =>
 ad K (ar v9 false) (ai .neq av true cA (.int .u8 1)) (fun bW =>
 aF K (aO v9 (.bool true) bW) (fun bY =>
 ad K (ar bY false) (ae (some 0) v1) (fun v20 =>
 ad K (ar bY false) (ae (some 0) v20) (fun v21 =>
 ad K (ar bY false) (ah aD v21 aw) (fun cw =>
 ad K (ar bY false) (au (some (43,6)) none cw (.int .i64 0)) (fun dp =>
 ad K (ar bY false) (ae (some 5) dp) (fun v24 =>
 ad K (ar bY false) (ah aD v24 aw) (fun dE =>
 ad K (ar bY false) (ae (some 0) v1) (fun er =>
 ad K (ar bY false) (ae (some 0) er) (fun dq =>
 ad K (ar bY false) (ah aD dq aw) (fun v28 =>
 ad K (ar bY false) (br (some false) v28) (fun cJ =>
 ad K (ar bY false) (ai .neq av false dE cJ) (fun v30 =>
 aF K (aO bY (.bool true) v30) (fun v31 =>
 ao v31 (
 aj R (.bool false) U) (
 ag K 130 [] U (aq (fun et U =>
 (ae (some 0) v1).wp K U (fun dJ U =>
 (ae (some 0) dJ).wp K U (fun fG U =>
 (ah aD fG U).wp K U (fun eN U =>
 (br (some false) eN).wp K U (fun fH U =>
 di 4 [v1,et,fH,(.int .i64 0)] U fun lp fO v3 AA v37 U =>
 (ai .lss av false v37 AA).wp K U (fun gL U =>
 ao gL (
 (ah (some (true,1)) fO U).wp K U (fun v40 U =>
 ag K 131 [v40,v37,v3] U (aq (fun eI U =>
 (hY .not eI).wp K U (fun jZ U =>
 ao jZ (
 aj R (.bool false) U) (
 (ai .add av true v37 (.int .i64 1)).wp K U (fun gn U =>
 lp fO v3 AA gn U) (aa R))) (aa R)) (aa R))) (aa R)) (
 aj R (.bool true) U)) (aa R)) (aa R)) (aa R)) (aa R)) (aa R)) (aa R))))))))))))))))))))))))))))) U) (aa R)
def VB:Prop :=
 (eO a0).wp K U (fun v1 U =>
 (ae (some 0) v1).wp K U (fun v7 U =>
 (ah aD v7 U).wp K U (fun v8 U =>
 (br (some false) v8).wp K U (fun v9 U =>
 di 6 [v1,(.bool false),.aA,v8,v9,(.int .i64 0)] U fun lp fO v2 v3 gy ra v10 U =>
 (ai .lss av false v10 ra).wp K U (fun v11 U =>
 ao v11 (
 (au (some (43,6)) none gy v10).wp K U (fun bP U =>
 (ah (some (true,6)) bP U).wp K U (fun bK U =>
 (ay.db [.int .i64 0]).wp K U (fun v4 U =>
 (ay.db [.int .u8 0,.str [],.int .i64 0,.int .i64 0,.int .i64 0,.int .i64 0]).wp K U (fun v5 U =>
 (aU aD v4 v10 U).wp K U (fun _ U =>
 (aU (some (true,6)) v5 bK U).wp K U (fun _ U =>
 ag K 132 [v3,(.func (.func 133) [] [v4])] U (aq (fun bW U =>
 (br (some false) bW).wp K U (fun bS U =>
 (ai .gtr av true bS (.int .i64 60)).wp K U (fun v20 U =>
 ao v20 (
 aj R (.bool true) U) (
 (ah aD v4 U).wp K U (fun cw U =>
 (ae (some 5) v5).wp K U (fun dp U =>
 (ah aD dp U).wp K U (fun v24 U =>
 (ai .add av false cw v24).wp K U (fun dE U =>
 (aJ (some (3,1)) (some [.int .i64 0]) 1 true [(0,dE)]).wp K U (fun er U =>
 (eu (some (3,1)) true bW er U).wp K U (fun dq U =>
 (ai .add av true v10 (.int .i64 1)).wp K U (fun v28 U =>
 lp fO v2 dq gy ra v28 U) (aa R)) (aa R)) (aa R)) (aa R)) (aa R)) (aa R)) (aa R))) (aa R)) (aa R)) (aa R))) (aa R)) (aa R)) (aa R)) (aa R)) (aa R)) (aa R)) (
 (ay.db [.int .i64 0]).wp K U (fun v6 U =>
 (aU aD v6 (.int .i64 0) U).wp K U (fun _ U =>
 (ah (some (true,1)) fO U).wp K U (fun cJ U =>
 (ee (some [(0,1)]) (some [.aA]) none [(0,cJ)]).wp K U (fun v30 U =>
 ag K 81 [v30,(.int .i64 0)] U (aq (fun v31 U =>
 qt K 1 v31 U (fun et q U =>
 q.CQ (fun U =>
 (ah aD v6 U).wp K U (fun dJ U =>
 (ai .add av true dJ (.int .i64 1)).wp K U (fun fG U =>
 (aU aD v6 fG U).wp K U (fun _ U =>
 q.n U) (fun _ _=>False)) (fun _ _=>False)) (fun _ _=>False)) U) (fun U =>
 (ah aD v6 U).wp K U (fun eN U =>
 (ai .gtr av true eN (.int .i64 24)).wp K U (fun fH U =>
 aj R fH U) (aa R)) (aa R)) (fun i U =>
 GO (Nat.beq i 2) (
 (ah aD v6 U).wp K U (fun adi U =>
 (ai .gtr av true adi (.int .i64 24)).wp K U (fun AA U =>
 aj R AA U) (aa R)) (aa R)) (
 False)) (fun U =>
 aj R v2 U) (fun x U=>(aa R) x U)) (aa R))) (aa R)) (aa R)) (aa R)) (aa R))) (aa R)) (aa R)) (aa R)) (aa R)) (aa R)
def VC:Prop :=
 (br (some false) a0).wp K U (fun v7 U =>
 (ai .eql av true v7 (.int .i64 0)).wp K U (fun v8 U =>
 ad K (ar v8 false) (ay.val a0) (fun v10 =>
 ad K (ar v8 false) (au (some (43,6)) none v10 (.int .i64 0)) (fun v11 =>
 ad K (ar v8 false) (ae (some 5) v11) (fun v12 =>
 ad K (ar v8 false) (ah aD v12 U) (fun bP =>
 ad K (ar v8 false) (ay.val a0) (fun bK =>
 ad K (ar v8 false) (br (some false) bK) (fun bj =>
 ad K (ar v8 false) (ai .neq av false bP bj) (fun cA =>
 (aO v8 (.bool true) cA).wp K U (fun bW U =>
 ao bW (
 aj R (.bool false) U) (
 di 2 [a0,(.int .i64 0)] U fun lp v0 v3 U =>
 (br (some false) v0).wp K U (fun v20 U =>
 (ai .lss av false v3 v20).wp K U (fun v21 U =>
 ao v21 (
 (au (some (43,6)) none v0 v3).wp K U (fun er U =>
 (ae (some 5) er).wp K U (fun dq U =>
 (ah aD dq U).wp K U (fun v28 U =>
 (ai .lss av true v28 (.int .i64 1)).wp K U (fun cJ U =>
 ad K (ar cJ false) (ay.val v0) (fun v31 =>
 ad K (ar cJ false) (ay.val v3) (fun et =>
 ad K (ar cJ false) (au (some (43,6)) none v31 et) (fun dJ =>
 ad K (ar cJ false) (ae (some 5) dJ) (fun fG =>
 ad K (ar cJ false) (ah aD fG U) (fun eN =>
 ad K (ar cJ false) (ay.val v0) (fun fH =>
 ad K (ar cJ false) (br (some false) fH) (fun v37 =>
 ad K (ar cJ false) (ay.val v3) (fun gL =>
 ad K (ar cJ false) (ai .sub av false v37 gL) (fun gS =>
 ad K (ar cJ false) (ai .gtr av false eN gS) (fun v40 =>
 (aO cJ (.bool true) v40).wp K U (fun eY U =>
 ao eY (
 aj R (.bool false) U) (
 (ai .add av true v3 (.int .i64 1)).wp K U (fun dp U =>
 lp v0 dp U) (aa R))) (aa R)))))))))))) (aa R)) (aa R)) (aa R)) (aa R)) (
 di 2 [v0,(.int .i64 0)] U fun xi fm v4 U =>
 (br (some false) fm).wp K U (fun jZ U =>
 (ai .lss av false v4 jZ).wp K U (fun gn U =>
 ao gn (
 (ai .add av true v4 (.int .i64 1)).wp K U (fun v49 U =>
 di 3 [fm,v4,v49] U fun HK vo eC v5 U =>
 (au (some (43,6)) none vo eC).wp K U (fun gi U =>
 (ae (some 5) gi).wp K U (fun gU U =>
 (ah aD gU U).wp K U (fun iM U =>
 (ai .add av false eC iM).wp K U (fun iv U =>
 (ai .lss av false v5 iv).wp K U (fun iG U =>
 ao iG (
 (au (some (43,6)) none vo v5).wp K U (fun lC U =>
 (ae (some 5) lC).wp K U (fun je U =>
 (ah aD je U).wp K U (fun nV U =>
 (ai .add av false v5 nV).wp K U (fun lD U =>
 HK vo eC lD U) (aa R)) (aa R)) (aa R)) (aa R)) (
 (au (some (43,6)) none vo eC).wp K U (fun v70 U =>
 (ae (some 5) v70).wp K U (fun mA U =>
 (ah aD mA U).wp K U (fun v72 U =>
 (ai .add av false eC v72).wp K U (fun pn U =>
 (ai .neq av false v5 pn).wp K U (fun oT U =>
 ao oT (
 aj R (.bool false) U) (
 (ai .add av true eC (.int .i64 1)).wp K U (fun iL U =>
 xi vo iL U) (aa R))) (aa R)) (aa R)) (aa R)) (aa R)) (aa R))) (aa R)) (aa R)) (aa R)) (aa R)) (aa R)) (aa R)) (
 aj R (.bool true) U)) (aa R)) (aa R))) (aa R)) (aa R))) (aa R))))))))) (aa R)) (aa R)
def VD:Prop :=
 (eO a0).wp K U (fun v1 U =>
 (fun aw:St =>
 aF K (ae (some 0) v1) (fun v3 =>
 aF K (ah aD v3 aw) (fun v4 =>
 aF K (ay.enter 134 [v4]) (fun v5 =>
 aF K (ae (some 1) v1) (fun v6 =>
 aF K (ah aD v6 aw) (fun v7 =>
 aF K (ai .neq av true v7 (.str w_)) (fun v8 =>
 aF K (ai .neq (BT.mk true false false none false) false v5 v8) (fun v9 =>
 ad K (ar v9 false) (ae (some 1) v1) (fun v11 =>
 ad K (ar v9 false) (ah aD v11 aw) (fun v12 =>
 ad K (ar v9 false) (ai .neq av true v12 (.str w_)) (fun bP =>
 ad K (ar v9 false) (ay.val bP) (fun bK =>
 ad K (ar bK true) (ae (some 1) v1) (fun bj =>
 ad K (ar bK true) (ah aD bj aw) (fun cA =>
 ad K (ar bK true) (ay.enter 135 [cA]) (fun bW =>
 ad K (ar bK true) (hY .not bW) (fun bY =>
 ad K (ar v9 false) (aO bK bY (.bool false)) (fun bS =>
 aF K (aO v9 (.bool true) bS) (fun v20 =>
 ao v20 (
 aj R (.bool false) U) (
 (ae (some 0) v1).wp K U (fun v21 U =>
 (ah aD v21 U).wp K U (fun cw U =>
 ag K 136 [cw] U (aq (fun dp U =>
 ad K (ar dp true) (ae (some 2) v1) (fun dE =>
 ad K (ar dp true) (ah aD dE U) (fun er =>
 ad K (ar dp true) (ay.enter 137 [er]) (fun dq =>
 ad K (ar dp true) (hY .not dq) (fun v28 =>
 (aO dp v28 (.bool false)).wp K U (fun cJ U =>
 ad K (ar cJ false) (ae (some 0) v1) (fun v31 =>
 ad K (ar cJ false) (ah aD v31 U) (fun et =>
 ad K (ar cJ false) (ay.enter 136 [et]) (fun dJ =>
 ad K (ar cJ false) (hY .not dJ) (fun fG =>
 ad K (ar cJ false) (ay.val fG) (fun eN =>
 ad K (ar eN true) (ae (some 2) v1) (fun fH =>
 ad K (ar eN true) (ah aD fH U) (fun v37 =>
 ad K (ar eN true) (ai .neq av true v37 (.int .i64 0)) (fun gL =>
 ad K (ar cJ false) (aO eN gL (.bool false)) (fun gS =>
 (aO cJ (.bool true) gS).wp K U (fun v40 U =>
 ao v40 (
 aj R (.bool false) U) (
 (ae (some 0) v1).wp K U (fun eY U =>
 (ah aD eY U).wp K U (fun iu U =>
 (ai .eql av true iu (.int .u8 12)).wp K U (fun eI U =>
 ad K (ar eI true) (ae (some 3) v1) (fun gn =>
 ad K (ar eI true) (ah aD gn U) (fun v46 =>
 ad K (ar eI true) (ay.enter 137 [v46]) (fun iL =>
 (aO eI iL (.bool false)).wp K U (fun hZ U =>
 ad K (ar hZ false) (ae (some 0) v1) (fun fJ =>
 ad K (ar hZ false) (ah aD fJ U) (fun v51 =>
 ad K (ar hZ false) (ai .neq av true v51 (.int .u8 12)) (fun gT =>
 ad K (ar hZ false) (ay.val gT) (fun v53 =>
 ad K (ar v53 true) (ae (some 3) v1) (fun gi =>
 ad K (ar v53 true) (ah aD gi U) (fun gU =>
 ad K (ar v53 true) (ai .eql av true gU (.int .i64 0)) (fun iM =>
 ad K (ar hZ false) (aO v53 iM (.bool false)) (fun iv =>
 (aO hZ (.bool true) iv).wp K U (fun iG U =>
 aj R iG U) (aa R)))))))))) (aa R))))) (aa R)) (aa R)) (aa R))) (aa R))))))))))) (aa R)))))) (aa R))) (aa R)) (aa R)))))))))))))))))))) U) (aa R)
def VE:Prop :=
 (br (some false) a1).wp K U (fun v7 U =>
 (ai .eql av true a0 (.int .u8 1)).wp K U (fun v10 U =>
 ao v10 (
 ag K 138 [a1] U (aq (fun v12 U =>
 aj R v12 U) (aa R))) (
 gR 4 (fun v1 v5 v8 bP U =>
 ao bP (
 (ai .eql av true v5 (.int .i64 1)).wp K U (fun bW U =>
 ad K (ar bW true) (ay.val v1) (fun bS =>
 ad K (ar bW true) (au (some (5,1)) none bS (.int .i64 0)) (fun v20 =>
 ad K (ar bW true) (ah aD v20 U) (fun v21 =>
 ad K (ar bW true) (ay.enter 139 [v21]) (fun cw =>
 (aO bW cw (.bool false)).wp K U (fun dp U =>
 aj R dp U) (aa R)))))) (aa R)) (
 gR 4 (fun fO iK gy v24 U =>
 ao v24 (
 (ai .geq av true iK (.int .i64 2)).wp K U (fun v28 U =>
 ad K (ar v28 true) (ay.val fO) (fun v30 =>
 ad K (ar v28 true) (ay.val iK) (fun v31 =>
 ad K (ar v28 true) (ai .sub av true v31 (.int .i64 2)) (fun et =>
 ad K (ar v28 true) (dt false (some (5,1)) v30 none (some et)) (fun dJ =>
 ad K (ar v28 true) (ay.enter 140 [dJ,(.int .u8 5)]) (fun fG =>
 (aO v28 fG (.bool false)).wp K U (fun eN U =>
 ad K (ar eN true) (ay.val fO) (fun v37 =>
 ad K (ar eN true) (ay.val iK) (fun gL =>
 ad K (ar eN true) (ai .sub av true gL (.int .i64 2)) (fun gS =>
 ad K (ar eN true) (au (some (5,1)) none v37 gS) (fun v40 =>
 ad K (ar eN true) (ah aD v40 U) (fun eY =>
 ad K (ar eN true) (ay.enter 141 [eY]) (fun iu =>
 (aO eN iu (.bool false)).wp K U (fun eI U =>
 ad K (ar eI true) (ay.val fO) (fun gn =>
 ad K (ar eI true) (ay.val iK) (fun v46 =>
 ad K (ar eI true) (ai .sub av true v46 (.int .i64 1)) (fun iL =>
 ad K (ar eI true) (au (some (5,1)) none gn iL) (fun hZ =>
 ad K (ar eI true) (ah aD hZ U) (fun v49 =>
 ad K (ar eI true) (ay.enter 142 [v49]) (fun fJ =>
 (aO eI fJ (.bool false)).wp K U (fun v51 U =>
 aj R v51 U) (aa R)))))))) (aa R)))))))) (aa R))))))) (aa R)) (
 (ai .eql av true gy (.int .u8 8)).wp K U (fun v53 U =>
 ao v53 (
 (ai .geq av true iK (.int .i64 2)).wp K U (fun gU U =>
 ad K (ar gU true) (ay.val fO) (fun iv =>
 ad K (ar gU true) (ay.enter 143 [iv]) (fun iG =>
 (aO gU iG (.bool false)).wp K U (fun v59 U =>
 aj R v59 U) (aa R)))) (aa R)) (
 (ai .eql av true gy (.int .u8 9)).wp K U (fun ju U =>
 ao ju (
 (ai .geq av true iK (.int .i64 2)).wp K U (fun je U =>
 ad K (ar je true) (ay.val fO) (fun lD =>
 ad K (ar je true) (ay.enter 144 [lD]) (fun nW =>
 (aO je nW (.bool false)).wp K U (fun nX U =>
 aj R nX U) (aa R)))) (aa R)) (
 (ai .eql av true gy (.int .u8 10)).wp K U (fun p6 U =>
 ao p6 (
 (ai .eql av true iK (.int .i64 3)).wp K U (fun mA U =>
 ad K (ar mA true) (ay.val fO) (fun pn =>
 ad K (ar mA true) (ay.enter 144 [pn]) (fun oT =>
 (aO mA oT (.bool false)).wp K U (fun v75 U =>
 aj R v75 U) (aa R)))) (aa R)) (
 gR 4 (fun xT xV sv v76 U =>
 ao v76 (
 (ai .eql av true xV (.int .i64 2)).wp K U (fun FH U =>
 ad K (ar FH true) (ay.val xT) (fun Dq =>
 ad K (ar FH true) (ay.enter 144 [Dq]) (fun v91 =>
 (aO FH v91 (.bool false)).wp K U (fun FJ U =>
 aj R FJ U) (aa R)))) (aa R)) (
 gR 4 (fun vp ox qy v93 U =>
 ao v93 (
 (ai .eql av true ox (.int .i64 1)).wp K U (fun zV U =>
 ad K (ar zV true) (ay.val vp) (fun IC =>
 ad K (ar zV true) (ay.enter 144 [IC]) (fun Ug =>
 (aO zV Ug (.bool false)).wp K U (fun xQ U =>
 aj R xQ U) (aa R)))) (aa R)) (
 (ai .eql av true qy (.int .u8 34)).wp K U (fun D9 U =>
 ao D9 (
 (ai .geq av true ox (.int .i64 1)).wp K U (fun ID U =>
 ad K (ar ID true) (ay.val vp) (fun IE =>
 ad K (ar ID true) (ay.enter 145 [IE]) (fun xR =>
 (aO ID xR (.bool false)).wp K U (fun IF U =>
 aj R IF U) (aa R)))) (aa R)) (
 (ai .eql av true qy (.int .u8 35)).wp K U (fun BX U =>
 ao BX (
 (ai .geq av true ox (.int .i64 2)).wp K U (fun q9 U =>
 ad K (ar q9 true) (ay.val vp) (fun IH =>
 ad K (ar q9 true) (ay.val ox) (fun II =>
 ad K (ar q9 true) (ai .sub av true II (.int .i64 1)) (fun Ea =>
 ad K (ar q9 true) (dt false (some (5,1)) IH none (some Ea)) (fun MB =>
 ad K (ar q9 true) (ay.enter 140 [MB,(.int .u8 37)]) (fun Uh =>
 (aO q9 Uh (.bool false)).wp K U (fun xS U =>
 ad K (ar xS true) (ay.val vp) (fun MC =>
 ad K (ar xS true) (ay.val ox) (fun Ui =>
 ad K (ar xS true) (ai .sub av true Ui (.int .i64 1)) (fun v127 =>
 ad K (ar xS true) (au (some (5,1)) none MC v127) (fun Uj =>
 ad K (ar xS true) (ah aD Uj U) (fun Uk =>
 ad K (ar xS true) (ay.enter 142 [Uk]) (fun v130 =>
 (aO xS v130 (.bool false)).wp K U (fun v131 U =>
 aj R v131 U) (aa R)))))))) (aa R))))))) (aa R)) (
 (ai .eql av true qy (.int .u8 36)).wp K U (fun zW U =>
 ao zW (
 (ai .eql av true ox (.int .i64 3)).wp K U (fun BY U =>
 ad K (ar BY true) (ay.val vp) (fun Ul =>
 ad K (ar BY true) (au (some (5,1)) none Ul (.int .i64 0)) (fun v138 =>
 ad K (ar BY true) (ah aD v138 U) (fun v139 =>
 ad K (ar BY true) (ay.enter 142 [v139]) (fun afk =>
 (aO BY afk (.bool false)).wp K U (fun v141 U =>
 ad K (ar v141 true) (ay.val vp) (fun v143 =>
 ad K (ar v141 true) (au (some (5,1)) none v143 (.int .i64 1)) (fun afl =>
 ad K (ar v141 true) (ah aD afl U) (fun v145 =>
 ad K (ar v141 true) (ai .eql av true v145 (.int .u8 37)) (fun v146 =>
 (aO v141 v146 (.bool false)).wp K U (fun IJ U =>
 ad K (ar IJ true) (ay.val vp) (fun afm =>
 ad K (ar IJ true) (au (some (5,1)) none afm (.int .i64 2)) (fun afn =>
 ad K (ar IJ true) (ah aD afn U) (fun afo =>
 ad K (ar IJ true) (ay.enter 142 [afo]) (fun v152 =>
 (aO IJ v152 (.bool false)).wp K U (fun afp U =>
 aj R afp U) (aa R)))))) (aa R)))))) (aa R)))))) (aa R)) (
 gR 2 (fun afr v154 U =>
 ao v154 (
 (ai .eql av true afr (.int .i64 0)).wp K U (fun v167 U =>
 aj R v167 U) (aa R)) (
 aj R (.bool false) U)) fun zh =>
 (ai .eql av true qy (.int .u8 6)).wp K U (fun abc U =>
 ao abc (
 zh ox abc U) (
 (ai .eql av true qy (.int .u8 7)).wp K U (fun abd U =>
 ao abd (
 zh ox abd U) (
 (ai .eql av true qy (.int .u8 26)).wp K U (fun v157 U =>
 ao v157 (
 zh ox v157 U) (
 (ai .eql av true qy (.int .u8 27)).wp K U (fun abe U =>
 ao abe (
 zh ox abe U) (
 (ai .eql av true qy (.int .u8 28)).wp K U (fun v159 U =>
 ao v159 (
 zh ox v159 U) (
 (ai .eql av true qy (.int .u8 29)).wp K U (fun v160 U =>
 ao v160 (
 zh ox v160 U) (
 (ai .eql av true qy (.int .u8 30)).wp K U (fun abf U =>
 ao abf (
 zh ox abf U) (
 (ai .eql av true qy (.int .u8 31)).wp K U (fun v162 U =>
 ao v162 (
 zh ox v162 U) (
 (ai .eql av true qy (.int .u8 32)).wp K U (fun abg U =>
 ao abg (
 zh ox abg U) (
 (ai .eql av true qy (.int .u8 33)).wp K U (fun v164 U =>
 ao v164 (
 zh ox v164 U) (
 (ai .eql av true qy (.int .u8 37)).wp K U (fun afq U =>
 zh ox afq U) (aa R))) (aa R))) (aa R))) (aa R))) (aa R))) (aa R))) (aa R))) (aa R))) (aa R))) (aa R))) (aa R))) (aa R))) (aa R))) (aa R))) fun Oh =>
 (ai .eql av true sv (.int .u8 12)).wp K U (fun Be U =>
 ao Be (
 Oh xT xV sv Be U) (
 (ai .eql av true sv (.int .u8 14)).wp K U (fun Bf U =>
 ao Bf (
 Oh xT xV sv Bf U) (
 (ai .eql av true sv (.int .u8 16)).wp K U (fun zY U =>
 ao zY (
 Oh xT xV sv zY U) (
 (ai .eql av true sv (.int .u8 19)).wp K U (fun IK U =>
 ao IK (
 Oh xT xV sv IK U) (
 (ai .eql av true sv (.int .u8 25)).wp K U (fun v98 U =>
 Oh xT xV sv v98 U) (aa R))) (aa R))) (aa R))) (aa R))) (aa R))) fun vY =>
 (ai .eql av true gy (.int .u8 11)).wp K U (fun sL U =>
 ao sL (
 vY fO iK gy sL U) (
 (ai .eql av true gy (.int .u8 13)).wp K U (fun sa U =>
 ao sa (
 vY fO iK gy sa U) (
 (ai .eql av true gy (.int .u8 15)).wp K U (fun yq U =>
 ao yq (
 vY fO iK gy yq U) (
 (ai .eql av true gy (.int .u8 17)).wp K U (fun v80 U =>
 ao v80 (
 vY fO iK gy v80 U) (
 (ai .eql av true gy (.int .u8 18)).wp K U (fun Dl U =>
 ao Dl (
 vY fO iK gy Dl U) (
 (ai .eql av true gy (.int .u8 20)).wp K U (fun zX U =>
 ao zX (
 vY fO iK gy zX U) (
 (ai .eql av true gy (.int .u8 21)).wp K U (fun Dm U =>
 ao Dm (
 vY fO iK gy Dm U) (
 (ai .eql av true gy (.int .u8 22)).wp K U (fun Dp U =>
 ao Dp (
 vY fO iK gy Dp U) (
 (ai .eql av true gy (.int .u8 23)).wp K U (fun v85 U =>
 ao v85 (
 vY fO iK gy v85 U) (
 (ai .eql av true gy (.int .u8 24)).wp K U (fun yr U =>
 vY fO iK gy yr U) (aa R))) (aa R))) (aa R))) (aa R))) (aa R))) (aa R))) (aa R))) (aa R))) (aa R))) (aa R))) (aa R))) (aa R))) (aa R))) fun Og =>
 (ai .eql av true v8 (.int .u8 3)).wp K U (fun dE U =>
 ao dE (
 Og v1 v5 v8 dE U) (
 (ai .eql av true v8 (.int .u8 4)).wp K U (fun er U =>
 Og v1 v5 v8 er U) (aa R))) (aa R))) fun j =>
 (ai .eql av true a0 (.int .u8 2)).wp K U (fun bK U =>
 ao bK (
 j a1 v7 a0 bK U) (
 (ai .eql av true a0 (.int .u8 5)).wp K U (fun bj U =>
 j a1 v7 a0 bj U) (aa R))) (aa R))) (aa R)) (aa R)
def VF:Prop :=
 (br (some false) a0).wp K U (fun v8 U =>
 (sU (some (3,1)) (some [.int .i64 0]) true v8 v8).wp K U (fun v9 U =>
 di 3 [a0,v9,(.int .i64 0)] U fun lp v0 v3 v4 U =>
 (br (some false) v0).wp K U (fun v12 U =>
 (ai .lss av false v4 v12).wp K U (fun bP U =>
 ao bP (
 ag K 67 [v0,v4] U (aq (fun bY U =>
 di 5 [v0,v3,v4,bY,(.int .i64 0)] U fun xi fm nN eC v5 v6 U =>
 (br (some false) v5).wp K U (fun v21 U =>
 (ai .lss av false v6 v21).wp K U (fun cw U =>
 ao cw (
 (fun aw:St =>
 aF K (au (some (3,1)) none v5 v6) (fun v28 =>
 aF K (ah aD v28 aw) (fun cJ =>
 aF K (au (some (3,1)) none nN eC) (fun et =>
 aF K (ah aD et aw) (fun dJ =>
 aF K (ai .add av true dJ (.int .i64 1)) (fun fG =>
 aF K (au (some (3,1)) none nN cJ) (fun eN =>
 (aU aD eN fG U).wp K U (fun _ U =>
 (ai .add av true v6 (.int .i64 1)).wp K U (fun v24 U =>
 xi fm nN eC v5 v24 U) (aa R)) (aa R)))))))) U) (
 (ai .add av true eC (.int .i64 1)).wp K U (fun bj U =>
 lp fm nN bj U) (aa R))) (aa R)) (aa R)) (aa R))) (
 aj R v3 U)) (aa R)) (aa R)) (aa R)) (aa R)
def VG:Prop :=
 (br (some true) a0).wp K U (fun v6 U =>
 (ai .gtr av true v6 (.int .i64 2500)).wp K U (fun v7 U =>
 ao v7 (
 aj R (.aG [(.int .i64 0),(.int .i64 5)]) U) (
 (br (some true) a0).wp K U (fun v9 U =>
 di 3 [a0,v9,(.int .i64 0)] U fun lp v0 ra v10 U =>
 (ai .lss av false v10 ra).wp K U (fun v11 U =>
 ao v11 (
 (eh true none none v0 v10).wp K U (fun bj U =>
 ag K 146 [bj] U (aq (fun cA U =>
 (hY .not cA).wp K U (fun bW U =>
 ao bW (
 aj R (.aG [v10,(.int .i64 2)]) U) (
 (ai .add av true v10 (.int .i64 1)).wp K U (fun bS U =>
 lp v0 ra bS U) (aa R))) (aa R)) (aa R))) (aa R)) (
 aj R (.aG [(.int .i64 0),(.int .i64 0)]) U)) (aa R)) (aa R))) (aa R)) (aa R)
def VH (a0 a1:AV) (R:cO->St->Prop) (U:St):Prop :=
 (ah aD a1 U).wp K U (fun v4 U =>
 (ah aD a1 U).wp K U (fun v5 U =>
 (br (some false) v5).wp K U (fun v6 U =>
 (ai .sub av true v6 (.int .i64 1)).wp K U (fun v7 U =>
 (au (some (51,3)) none v4 v7).wp K U (fun v8 U =>
 (ae (some 1) v8).wp K U (fun v9 U =>
 (ah aD v9 U).wp K U (fun v10 U =>
 (br (some true) v10).wp K U (fun v11 U =>
 aj R v11 U) (aa R)) (aa R)) (aa R)) (aa R)) (aa R)) (aa R)) (aa R)) (aa R)
def VI:Prop :=
 (eO a0).wp K U (fun v2 U =>
 (eO a1).wp K U (fun v3 U =>
 aj R (.func (.func 147) [] [v2,v3]) U) (aa R)) (aa R)
def VJ:Prop :=
 (ay.db [.int .u8 0,.str [],.int .i64 0]).wp K U (fun v2 U =>
 ag K 149 [a0] U (aq (fun v7 U =>
 (dt true none a0 none (some v7)).wp K U (fun v8 U =>
 (ai .eql av true v8 (.str w_)).wp K U (fun v11 U =>
 ao v11 (
 ag K 150 [a0] U (aq (fun bP U =>
 (aV bP 0).wp K U (fun bK U =>
 (aV bP 1).wp K U (fun bj U =>
 (aU (some (true,3)) v2 bK U).wp K U (fun _ U =>
 bF (some (true,3)) v2 U fun r0 =>
 aj R (.aG [r0,bj]) U) (aa R)) (aa R)) (aa R)) (aa R))) (
 (eh true none none v8 (.int .i64 0)).wp K U (fun bY U =>
 (aJ (some (178,1)) (some [.int .i64 0]) 1 false [(0,(.int .i64 2))]).wp K U (fun bS U =>
 ag K 151 [bY,bS] U (aq (fun v20 U =>
 ao v20 (
 (ee (some [(0,1),(1,1),(2,1)]) (some [.int .u8 0,.str [],.int .i64 0]) none [(0,(.int .u8 2)),(1,v8)]).wp K U (fun cw U =>
 ag K 152 [v8] U (aq (fun v24 U =>
 (aU (some (true,3)) v2 cw U).wp K U (fun _ U =>
 bF (some (true,3)) v2 U fun qT =>
 aj R (.aG [qT,v24]) U) (aa R)) (aa R))) (aa R)) (
 (eh true none none v8 (.int .i64 0)).wp K U (fun dq U =>
 (aJ (some (178,1)) (some [.int .i64 0]) 1 false [(0,(.int .i64 3))]).wp K U (fun v28 U =>
 ag K 151 [dq,v28] U (aq (fun cJ U =>
 (hY .not cJ).wp K U (fun v30 U =>
 ao v30 (
 (ee (some [(0,1),(1,1),(2,1)]) (some [.int .u8 0,.str [],.int .i64 0]) none []).wp K U (fun v31 U =>
 (aU (some (true,3)) v2 v31 U).wp K U (fun _ U =>
 bF (some (true,3)) v2 U fun qU =>
 aj R (.aG [qU,(.int .i64 4)]) U) (aa R)) (aa R)) (
 ag K 153 [] U (aq (fun dJ U =>
 (gI (some (.s,4)) (some (.bool false)) dJ v8 false U).wp K U (fun eN U =>
 ao eN (
 (ee (some [(0,1),(1,1),(2,1)]) (some [.int .u8 0,.str [],.int .i64 0]) none [(0,(.int .u8 3)),(1,v8)]).wp K U (fun v37 U =>
 (aU (some (true,3)) v2 v37 U).wp K U (fun _ U =>
 bF (some (true,3)) v2 U fun xE =>
 aj R (.aG [xE,(.int .i64 0)]) U) (aa R)) (aa R)) (
 (br (some true) v8).wp K U (fun v40 U =>
 (ai .gtr av true v40 (.int .i64 12)).wp K U (fun eY U =>
 ao eY (
 (ee (some [(0,1),(1,1),(2,1)]) (some [.int .u8 0,.str [],.int .i64 0]) none []).wp K U (fun iu U =>
 (aU (some (true,3)) v2 iu U).wp K U (fun _ U =>
 bF (some (true,3)) v2 U fun BK =>
 aj R (.aG [BK,(.int .i64 4)]) U) (aa R)) (aa R)) (
 (ee (some [(0,1),(1,1),(2,1)]) (some [.int .u8 0,.str [],.int .i64 0]) none [(0,(.int .u8 1)),(1,v8)]).wp K U (fun jZ U =>
 (aU (some (true,3)) v2 jZ U).wp K U (fun _ U =>
 bF (some (true,3)) v2 U fun xF =>
 aj R (.aG [xF,(.int .i64 0)]) U) (aa R)) (aa R))) (aa R)) (aa R))) (aa R)) (aa R)))) (aa R)) (aa R))) (aa R)) (aa R))) (aa R))) (aa R)) (aa R))) (aa R)) (aa R)) (aa R))) (aa R)
def VK:Prop :=
 (eO a0).wp K U (fun v2 U =>
 (eO a1).wp K U (fun v3 U =>
 (fun aw:St =>
 aF K (ah aD v3 aw) (fun v6 =>
 aF K (ae (some 0) v2) (fun v7 =>
 aF K (ae (some 0) v7) (fun v8 =>
 aF K (ah aD v8 aw) (fun v9 =>
 aF K (ah aD v3 aw) (fun v10 =>
 aF K (au (some (43,6)) none v9 v10) (fun v11 =>
 aF K (ae (some 5) v11) (fun v12 =>
 aF K (ah aD v12 aw) (fun bP =>
 aF K (ai .add av false v6 bP) (fun bK =>
 (ay.db [.int .i64 0]).wp K U (fun v5 U=>cL ((dK v12++[])++((dK v3++[])++((dK v8++[])++((dK v3++[])++[])))) aw U /\
 (aU aD v5 bK U).wp K U (fun _ U =>
 aj R (.func (.func 155) [] [v3,v5,v2]) U) (aa R)) (aa R))))))))))) U) (aa R)) (aa R)
def VL:Prop :=
 (br (some false) a0).wp K U (fun v6 U =>
 (ai .gtr av true v6 (.int .i64 900)).wp K U (fun v7 U =>
 ao v7 (
 aj R (.int .i64 5) U) (
 (br (some false) a0).wp K U (fun v9 U =>
 di 3 [a0,v9,(.int .i64 0)] U fun lp v8 ra v10 U =>
 (ai .lss av false v10 ra).wp K U (fun v11 U =>
 ao v11 (
 (au (some (51,3)) none v8 v10).wp K U (fun v12 U =>
 (ah (some (true,3)) v12 U).wp K U (fun bP U =>
 (ay.db [.int .u8 0,.str [],.int .i64 0]).wp K U (fun v4 U =>
 (aU (some (true,3)) v4 bP U).wp K U (fun _ U =>
 (ah (some (true,3)) v4 U).wp K U (fun bK U =>
 ag K 156 [bK] U (aq (fun bj U =>
 (hY .not bj).wp K U (fun cA U =>
 ao cA (
 aj R (.int .i64 2) U) (
 (ai .add av true v10 (.int .i64 1)).wp K U (fun bW U =>
 lp v8 ra bW U) (aa R))) (aa R)) (aa R))) (aa R)) (aa R)) (aa R)) (aa R)) (aa R)) (
 aj R (.int .i64 0) U)) (aa R)) (aa R))) (aa R)) (aa R)
def O9:Prop :=
 (br (some true) a0).wp K U (fun v6 U =>
 (ai .gtr av true v6 (.int .i64 2500)).wp K U (fun v7 U =>
 ao v7 (
 aj R (.aG [(.int .i64 0),(.int .i64 5)]) U) (
 di 2 [a0,(.int .i64 0)] U fun lp v0 v4 U =>
 (br (some true) v0).wp K U (fun v10 U =>
 (ai .lss av false v4 v10).wp K U (fun v11 U =>
 ao v11 (
 (eh true none none v0 v4).wp K U (fun cA U =>
 ag K 170 [cA] U (aq (fun bW U =>
 (hY .not bW).wp K U (fun bY U =>
 ao bY (
 aj R (.aG [v4,(.int .i64 2)]) U) (
 (ai .add av true v4 (.int .i64 1)).wp K U (fun bP U =>
 lp v0 bP U) (aa R))) (aa R)) (aa R))) (aa R)) (
 aj R (.aG [(.int .i64 0),(.int .i64 0)]) U)) (aa R)) (aa R))) (aa R)) (aa R)
def Pb:Prop :=
 di 4 [a0,.aA,.aA,(.int .i64 0)] U fun lp v0 v6 v7 v8 U =>
 (br (some true) v0).wp K U (fun bK U =>
 (ai .lss av false v8 bK).wp K U (fun bj U =>
 ao bj (
 (eh true none none v0 v8).wp K U (fun bY U =>
 (ai .eql av true bY (.int .u8 32)).wp K U (fun bS U =>
 ad K (ar bS false) (ay.val v0) (fun v21 =>
 ad K (ar bS false) (ay.val v8) (fun cw =>
 ad K (ar bS false) (eh true none none v21 cw) (fun dp =>
 ad K (ar bS false) (ai .eql av true dp (.int .u8 10)) (fun v24 =>
 (aO bS (.bool true) v24).wp K U (fun dE U =>
 ao dE (
 (ai .add av true v8 (.int .i64 1)).wp K U (fun dq U =>
 lp v0 v6 v7 dq U) (aa R)) (
 (eh true none none v0 v8).wp K U (fun v30 U =>
 (ai .eql av true v30 (.int .u8 126)).wp K U (fun v31 U =>
 ao v31 (
 ag K 171 [v0,v8] U (aq (fun fG U =>
 (dt true none fG (some (.int .i64 1)) none).wp K U (fun v37 U =>
 (ee (some [(0,1),(1,1),(2,1)]) (some [.int .u8 0,.str [],.int .i64 0]) none [(0,(.int .u8 5)),(1,v37),(2,v8)]).wp K U (fun gS U =>
 (aJ (some (51,3)) (some [.int .u8 0,.str [],.int .i64 0]) 1 false [(0,gS)]).wp K U (fun v40 U =>
 (eu (some (51,3)) false v7 v40 U).wp K U (fun eY U =>
 (br (some true) fG).wp K U (fun jZ U =>
 (ai .add av false v8 jZ).wp K U (fun gn U =>
 lp v0 v6 eY gn U) (aa R)) (aa R)) (aa R)) (aa R)) (aa R)) (aa R)) (aa R))) (
 ag K 172 [v0,v8] U (aq (fun v49 U =>
 (aV v49 0).wp K U (fun fJ U =>
 (aV v49 1).wp K U (fun v51 U =>
 (ay.db [.int .u8 0,.str [],.int .i64 0]).wp K U (fun v10 U =>
 (aU (some (true,3)) v10 fJ U).wp K U (fun _ U =>
 gR 6 (fun fm jV kW gy Az v11 U =>
 (ai .neq av true v11 (.int .i64 0)).wp K U (fun mz U =>
 ao mz (
 aj R (.aG [.aA,.aA,gy,v11]) U) (
 (ah (some (true,3)) Az U).wp K U (fun nV U =>
 (aJ (some (51,3)) (some [.int .u8 0,.str [],.int .i64 0]) 1 false [(0,nV)]).wp K U (fun lD U =>
 (eu (some (51,3)) false jV lD U).wp K U (fun nW U =>
 (ae (some 1) Az).wp K U (fun j0 U =>
 (ah aD j0 U).wp K U (fun p6 U =>
 (br (some true) p6).wp K U (fun v70 U =>
 (ai .add av false gy v70).wp K U (fun mA U =>
 lp fm nW kW mA U) (aa R)) (aa R)) (aa R)) (aa R)) (aa R)) (aa R)) (aa R))) (aa R)) fun j =>
 (ai .eql av true v51 (.int .i64 0)).wp K U (fun v53 U =>
 ad K (ar v53 true) (ay.val v6) (fun gU =>
 ad K (ar v53 true) (br (some false) gU) (fun iM =>
 ad K (ar v53 true) (ai .eql av true iM (.int .i64 900)) (fun iv =>
 (aO v53 iv (.bool false)).wp K U (fun iG U =>
 ao iG (
 j v0 v6 v7 v8 v10 (.int .i64 5) U) (
 j v0 v6 v7 v8 v10 v51 U)) (aa R))))) (aa R)) (aa R)) (aa R)) (aa R)) (aa R)) (aa R)))) (aa R)) (aa R))) (aa R)))))) (aa R)) (aa R)) (
 aj R (.aG [v6,v7,(.int .i64 0),(.int .i64 0)]) U)) (aa R)) (aa R)
def Pd:Prop :=
 (ai .geq av false a2 a0).wp K U (fun v9 U =>
 ad K (ar v9 true) (ay.val a2) (fun v11 =>
 ad K (ar v9 true) (ay.val a1) (fun v12 =>
 ad K (ar v9 true) (ai .leq av false v11 v12) (fun bP =>
 (aO v9 bP (.bool false)).wp K U (fun bK U =>
 aj R bK U) (aa R))))) (aa R)
def Pf:Prop :=
 (bR a0).wp K U (fun v8 U =>
 (ae (some 0) v8).wp K U (fun v9 U =>
 (ae (some 0) v9).wp K U (fun v10 U =>
 (ae (some 0) v10).wp K U (fun v11 U =>
 (ah aD v11 U).wp K U (fun v12 U =>
 (au (some (43,6)) none v12 a1).wp K U (fun bK U =>
 (ah (some (true,6)) bK U).wp K U (fun bj U =>
 (ay.db [.int .u8 0,.str [],.int .i64 0,.int .i64 0,.int .i64 0,.int .i64 0]).wp K U (fun v4 U =>
 (aU (some (true,6)) v4 bj U).wp K U (fun _ U =>
 (ay.db [.aA]).wp K U (fun v5 U =>
 (bR a0).wp K U (fun bW U =>
 (ae (some 0) bW).wp K U (fun bY U =>
 (ah (some (true,1)) bY U).wp K U (fun bS U =>
 ag K 81 [bS,a1] U (aq (fun v21 U =>
 qt K 1 v21 U (fun cw q U =>
 q.CQ (fun U =>
 (ah aD v5 U).wp K U (fun dp U =>
 (aJ (some (3,1)) (some [.int .i64 0]) 1 false [(0,cw)]).wp K U (fun dE U =>
 (eu (some (3,1)) false dp dE U).wp K U (fun er U =>
 (aU aD v5 er U).wp K U (fun _ U =>
 q.n U) (fun _ _=>False)) (fun _ _=>False)) (fun _ _=>False)) (fun _ _=>False)) U) (fun U =>
 (ae (some 0) v4).wp K U (fun et U =>
 (ah aD et U).wp K U (fun dJ U =>
 ag K 179 [dJ] U (aq (fun fG U =>
 ao fG (
 (ah (some (true,6)) v4 U).wp K U (fun fH U =>
 (ah aD v5 U).wp K U (fun v37 U =>
 ag K 180 [a0,fH,v37] U (aq (fun gL U =>
 aj R (.aG []) U) (aa R))) (aa R)) (aa R)) (
 (ae (some 0) v4).wp K U (fun v40 U =>
 (ah aD v40 U).wp K U (fun eY U =>
 ag K 181 [eY] U (aq (fun iu U =>
 ao iu (
 (ah (some (true,6)) v4 U).wp K U (fun jZ U =>
 (ah aD v5 U).wp K U (fun gn U =>
 ag K 182 [a0,jZ,gn] U (aq (fun v46 U =>
 aj R (.aG []) U) (aa R))) (aa R)) (aa R)) (
 (ae (some 0) v4).wp K U (fun hZ U =>
 (ah aD hZ U).wp K U (fun v49 U =>
 (ai .geq av true v49 (.int .u8 17)).wp K U (fun fJ U =>
 ad K (ar fJ true) (ae (some 0) v4) (fun gT =>
 ad K (ar fJ true) (ah aD gT U) (fun v53 =>
 ad K (ar fJ true) (ai .leq av true v53 (.int .u8 25)) (fun gi =>
 (aO fJ gi (.bool false)).wp K U (fun gU U =>
 ao gU (
 (ah (some (true,6)) v4 U).wp K U (fun iv U =>
 (ah aD v5 U).wp K U (fun iG U =>
 ag K 183 [a0,iv,iG] U (aq (fun v59 U =>
 aj R (.aG []) U) (aa R))) (aa R)) (aa R)) (
 (ae (some 0) v4).wp K U (fun ju U =>
 (ah aD ju U).wp K U (fun lC U =>
 (ai .geq av true lC (.int .u8 9)).wp K U (fun je U =>
 ad K (ar je true) (ae (some 0) v4) (fun lD =>
 ad K (ar je true) (ah aD lD U) (fun nW =>
 ad K (ar je true) (ai .leq av true nW (.int .u8 16)) (fun nX =>
 (aO je nX (.bool false)).wp K U (fun j0 U =>
 ao j0 (
 (ah (some (true,6)) v4 U).wp K U (fun v70 U =>
 (ah aD v5 U).wp K U (fun mA U =>
 ag K 184 [a0,v70,mA] U (aq (fun v72 U =>
 aj R (.aG []) U) (aa R))) (aa R)) (aa R)) (
 (ae (some 0) v4).wp K U (fun oT U =>
 (ah aD oT U).wp K U (fun v75 U =>
 ag K 185 [v75] U (aq (fun v76 U =>
 ao v76 (
 (ah (some (true,6)) v4 U).wp K U (fun sa U =>
 (ah aD v5 U).wp K U (fun yq U =>
 ag K 186 [a0,sa,yq] U (aq (fun v80 U =>
 aj R (.aG []) U) (aa R))) (aa R)) (aa R)) (
 (ah (some (true,6)) v4 U).wp K U (fun v28 U =>
 (ah aD v5 U).wp K U (fun cJ U =>
 ag K 187 [a0,v28,cJ] U (aq (fun v30 U =>
 aj R (.aG []) U) (aa R))) (aa R)) (aa R))) (aa R))) (aa R)) (aa R))) (aa R))))) (aa R)) (aa R)) (aa R))) (aa R))))) (aa R)) (aa R)) (aa R))) (aa R))) (aa R)) (aa R))) (aa R))) (aa R)) (aa R)) (fun i U =>
 GO (Nat.beq i 0) (
 (ae (some 0) v4).wp K U (fun adf U =>
 (ah aD adf U).wp K U (fun adg U =>
 ag K 179 [adg] U (aq (fun adh U =>
 ao adh (
 (ah (some (true,6)) v4 U).wp K U (fun AA U =>
 (ah aD v5 U).wp K U (fun adj U =>
 ag K 180 [a0,AA,adj] U (aq (fun afJ U =>
 aj R (.aG []) U) (aa R))) (aa R)) (aa R)) (
 (ae (some 0) v4).wp K U (fun adk U =>
 (ah aD adk U).wp K U (fun adl U =>
 ag K 181 [adl] U (aq (fun AB U =>
 ao AB (
 (ah (some (true,6)) v4 U).wp K U (fun adm U =>
 (ah aD v5 U).wp K U (fun adn U =>
 ag K 182 [a0,adm,adn] U (aq (fun afK U =>
 aj R (.aG []) U) (aa R))) (aa R)) (aa R)) (
 (ae (some 0) v4).wp K U (fun ado U =>
 (ah aD ado U).wp K U (fun MD U =>
 (ai .geq av true MD (.int .u8 17)).wp K U (fun AD U =>
 ad K (ar AD true) (ae (some 0) v4) (fun MF =>
 ad K (ar AD true) (ah aD MF U) (fun adr =>
 ad K (ar AD true) (ai .leq av true adr (.int .u8 25)) (fun MG =>
 (aO AD MG (.bool false)).wp K U (fun ads U =>
 ao ads (
 (ah (some (true,6)) v4 U).wp K U (fun adt U =>
 (ah aD v5 U).wp K U (fun adu U =>
 ag K 183 [a0,adt,adu] U (aq (fun afL U =>
 aj R (.aG []) U) (aa R))) (aa R)) (aa R)) (
 (ae (some 0) v4).wp K U (fun adw U =>
 (ah aD adw U).wp K U (fun adx U =>
 (ai .geq av true adx (.int .u8 9)).wp K U (fun Gi U =>
 ad K (ar Gi true) (ae (some 0) v4) (fun ady =>
 ad K (ar Gi true) (ah aD ady U) (fun adz =>
 ad K (ar Gi true) (ai .leq av true adz (.int .u8 16)) (fun adA =>
 (aO Gi adA (.bool false)).wp K U (fun adB U =>
 ao adB (
 (ah (some (true,6)) v4 U).wp K U (fun adC U =>
 (ah aD v5 U).wp K U (fun adD U =>
 ag K 184 [a0,adC,adD] U (aq (fun afM U =>
 aj R (.aG []) U) (aa R))) (aa R)) (aa R)) (
 (ae (some 0) v4).wp K U (fun adE U =>
 (ah aD adE U).wp K U (fun adF U =>
 ag K 185 [adF] U (aq (fun adG U =>
 ao adG (
 (ah (some (true,6)) v4 U).wp K U (fun adH U =>
 (ah aD v5 U).wp K U (fun adI U =>
 ag K 186 [a0,adH,adI] U (aq (fun afN U =>
 aj R (.aG []) U) (aa R))) (aa R)) (aa R)) (
 (ah (some (true,6)) v4 U).wp K U (fun adb U =>
 (ah aD v5 U).wp K U (fun ade U =>
 ag K 187 [a0,adb,ade] U (aq (fun afI U =>
 aj R (.aG []) U) (aa R))) (aa R)) (aa R))) (aa R))) (aa R)) (aa R))) (aa R))))) (aa R)) (aa R)) (aa R))) (aa R))))) (aa R)) (aa R)) (aa R))) (aa R))) (aa R)) (aa R))) (aa R))) (aa R)) (aa R)) (
 False)) (fun U =>
 aj R (.aG []) U) (fun x U=>(aa R) x U)) (aa R))) (aa R)) (aa R)) (aa R)) (aa R)) (aa R)) (aa R)) (aa R)) (aa R)) (aa R)) (aa R)) (aa R)) (aa R)) (aa R)
def Ph:Prop :=
 ag K 93 [a0] U (aq (fun v9 U =>
 (ai .neq av true v9 (.int .i64 0)).wp K U (fun v11 U =>
 ao v11 (
 aj R (.aG [(.str w_),v9]) U) (
 (ay.new .box none (.sK 158 [.bU,.aA])).wp K U (fun v5 U =>
 (br (some false) a0).wp K U (fun bK U =>
 di 5 [a0,v5,a0,bK,(.int .i64 0)] U fun lp v0 iK bP Dk bj U =>
 (ai .lss av false bj Dk).wp K U (fun cA U =>
 ao cA (
 (au (some (51,3)) none bP bj).wp K U (fun bY U =>
 (ah (some (true,3)) bY U).wp K U (fun bS U =>
 (ay.db [.int .u8 0,.str [],.int .i64 0]).wp K U (fun v7 U =>
 (aU (some (true,3)) v7 bS U).wp K U (fun _ U =>
 gR 6 (fun fm xV kW uN ac9 ada U =>
 (ae (some 1) kW).wp K U (fun et U =>
 (ah aD et U).wp K U (fun dJ U =>
 ag K 125 [xV,dJ] U (aq (fun fG U =>
 (ai .add av true ada (.int .i64 1)).wp K U (fun eN U =>
 lp fm xV uN ac9 eN U) (aa R)) (aa R))) (aa R)) (aa R)) fun j =>
 (fun aw:St =>
 aF K (ai .gtr av true bj (.int .i64 0)) (fun v21 =>
 ad K (ar v21 true) (ay.val v0) (fun dp =>
 ad K (ar v21 true) (ay.val bj) (fun v24 =>
 ad K (ar v21 true) (ai .sub av true v24 (.int .i64 1)) (fun dE =>
 ad K (ar v21 true) (au (some (51,3)) none dp dE) (fun er =>
 ad K (ar v21 true) (ah (some (true,3)) er aw) (fun dq =>
 ad K (ar v21 true) (ah (some (true,3)) v7 aw) (fun v28 =>
 ad K (ar v21 true) (ay.enter 188 [dq,v28]) (fun cJ =>
 aF K (aO v21 cJ (.bool false)) (fun v30 =>
 ao v30 (
 ag K 189 [iK,(.int .u8 32)] U (aq (fun v31 U =>
 j v0 iK v7 bP Dk bj U) (aa R))) (
 j v0 iK v7 bP Dk bj U))))))))))) U) (aa R)) (aa R)) (aa R)) (aa R)) (
 ag K 126 [iK] U (aq (fun fH U =>
 (ai .gtr av true fH (.int .i64 2500)).wp K U (fun v37 U =>
 ao v37 (
 aj R (.aG [(.str w_),(.int .i64 5)]) U) (
 ag K 127 [iK] U (aq (fun gL U =>
 aj R (.aG [gL,(.int .i64 0)]) U) (aa R)))) (aa R)) (aa R)))) (aa R)) (aa R)) (aa R))) (aa R)) (aa R))
def Pk:Prop :=
 ag K 190 [a0] U (aq (fun v7 U =>
 (bR a0).wp K U (fun v10 U =>
 (ae (some 1) v10).wp K U (fun v11 U =>
 (ah aD v11 U).wp K U (fun v12 U =>
 (eu (some (5,1)) false v12 a1 U).wp K U (fun bK U =>
 (bR a0).wp K U (fun bj U =>
 (ae (some 1) bj).wp K U (fun cA U =>
 (aU aD cA bK U).wp K U (fun _ U =>
 (br (some true) a1).wp K U (fun bY U =>
 aj R (.aG [bY,.dv]) U) (aa R)) (aa R)) (aa R)) (aa R)) (aa R)) (aa R)) (aa R)) (aa R)) (aa R))
def Pn:Prop :=
 (bR a0).wp K U (fun v4 U =>
 (ae (some 1) v4).wp K U (fun v5 U =>
 (ah aD v5 U).wp K U (fun v6 U =>
 (br (some false) v6).wp K U (fun v7 U =>
 aj R v7 U) (aa R)) (aa R)) (aa R)) (aa R)
def C7:Prop :=
 (bR a0).wp K U (fun v8 U =>
 (ae (some 0) v8).wp K U (fun v9 U =>
 (ah aD v9 U).wp K U (fun v10 U =>
 (au (some (43,6)) none v10 a1).wp K U (fun v12 U =>
 (ah (some (true,6)) v12 U).wp K U (fun bP U =>
 (ay.db [.int .u8 0,.str [],.int .i64 0,.int .i64 0,.int .i64 0,.int .i64 0]).wp K U (fun v4 U =>
 (aU (some (true,6)) v4 bP U).wp K U (fun _ U =>
 (bR a0).wp K U (fun bj U =>
 (ae (some 0) bj).wp K U (fun cA U =>
 (ah aD cA U).wp K U (fun bW U =>
 ag K 67 [bW,a1] U (aq (fun bS U =>
 (ae (some 0) v4).wp K U (fun v24 U =>
 (ah aD v24 U).wp K U (fun dE U =>
 ag K 191 [dE] U (aq (fun er U =>
 ao er (
 ag K 192 [a0,a1] U (aq (fun cJ U =>
 aj R (.aG []) U) (aa R))) (
 (ae (some 0) v4).wp K U (fun v31 U =>
 (ah aD v31 U).wp K U (fun et U =>
 (ai .eql av true et (.int .u8 5)).wp K U (fun dJ U =>
 ao dJ (
 (ae (some 1) v4).wp K U (fun eN U =>
 (ah aD eN U).wp K U (fun fH U =>
 (ai .add av true fH (.str re)).wp K U (fun v37 U =>
 ag K 193 [a0,v37] U (aq (fun gL U =>
 (au (some (3,1)) none bS (.int .i64 0)).wp K U (fun eY U =>
 (ah aD eY U).wp K U (fun iu U =>
 ag K 194 [a0,iu] U (aq (fun eI U =>
 aj R (.aG []) U) (aa R))) (aa R)) (aa R)) (aa R))) (aa R)) (aa R)) (aa R)) (
 (ae (some 0) v4).wp K U (fun gn U =>
 (ah aD gn U).wp K U (fun v46 U =>
 ag K 139 [v46] U (aq (fun iL U =>
 ao iL (
 ag K 194 [a0,a1] U (aq (fun fJ U =>
 aj R (.aG []) U) (aa R))) (
 (ae (some 0) v4).wp K U (fun gT U =>
 (ah aD gT U).wp K U (fun v53 U =>
 (ai .eql av true v53 (.int .u8 9)).wp K U (fun gi U =>
 ao gi (
 di 3 [a0,bS,(.int .i64 0)] U fun lp v0 v5 v6 U =>
 (br (some false) v5).wp K U (fun iv U =>
 (ai .lss av false v6 iv).wp K U (fun iG U =>
 ao iG (
 gR 3 (fun fm iK jV U =>
 (au (some (3,1)) none iK jV).wp K U (fun j0 U =>
 (ah aD j0 U).wp K U (fun p6 U =>
 ag K 195 [fm,p6,(.int .i64 1)] U (aq (fun v70 U =>
 (ai .add av true jV (.int .i64 1)).wp K U (fun mz U =>
 lp fm iK mz U) (aa R)) (aa R))) (aa R)) (aa R)) fun j =>
 (ai .gtr av true v6 (.int .i64 0)).wp K U (fun lC U =>
 ao lC (
 ag K 193 [v0,(.str dO)] U (aq (fun nV U =>
 j v0 v5 v6 U) (aa R))) (
 j v0 v5 v6 U)) (aa R)) (
 aj R (.aG []) U)) (aa R)) (aa R)) (
 (ae (some 0) v4).wp K U (fun v72 U =>
 (ah aD v72 U).wp K U (fun pn U =>
 ag K 196 [pn] U (aq (fun oT U =>
 (ai .eql av true oT (.int .i64 1)).wp K U (fun v75 U =>
 ao v75 (
 ag K 197 [a0,a1] U (aq (fun sa U =>
 aj R (.aG []) U) (aa R))) (
 (ae (some 0) v4).wp K U (fun v80 U =>
 (ah aD v80 U).wp K U (fun Dl U =>
 ag K 196 [Dl] U (aq (fun zX U =>
 (ai .lss av true zX (.int .i64 9)).wp K U (fun Dm U =>
 ao Dm (
 ag K 198 [a0,a1] U (aq (fun yr U =>
 aj R (.aG []) U) (aa R))) (
 ag K 199 [a0,a1] U (aq (fun cw U =>
 aj R (.aG []) U) (aa R)))) (aa R)) (aa R))) (aa R)) (aa R))) (aa R)) (aa R))) (aa R)) (aa R))) (aa R)) (aa R)) (aa R))) (aa R))) (aa R)) (aa R))) (aa R)) (aa R)) (aa R))) (aa R))) (aa R)) (aa R)) (aa R))) (aa R)) (aa R)) (aa R)) (aa R)) (aa R)) (aa R)) (aa R)) (aa R)) (aa R)) (aa R)
def Pp:Prop :=
 ag K 200 [a0] U (aq (fun v8 U =>
 (ai .neq av true v8 (.int .i64 0)).wp K U (fun v10 U =>
 ao v10 (
 aj R (.aG [(.str w_),v8]) U) (
 di 3 [a0,(.str w_),(.int .i64 0)] U fun lp v0 v5 v6 U =>
 (br (some false) v0).wp K U (fun bK U =>
 (ai .lss av false v6 bK).wp K U (fun bj U =>
 ao bj (
 gR 3 (fun fm iK jV U =>
 (au (some (51,3)) none fm jV).wp K U (fun v37 U =>
 (ae (some 1) v37).wp K U (fun gL U =>
 (ah aD gL U).wp K U (fun gS U =>
 (ai .add av false iK gS).wp K U (fun v40 U =>
 (ai .add av true jV (.int .i64 1)).wp K U (fun bW U =>
 lp fm v40 bW U) (aa R)) (aa R)) (aa R)) (aa R)) (aa R)) fun j =>
 (fun aw:St =>
 aF K (ai .gtr av true v6 (.int .i64 0)) (fun bS =>
 ad K (ar bS true) (ay.val v0) (fun v21 =>
 ad K (ar bS true) (ay.val v6) (fun cw =>
 ad K (ar bS true) (ai .sub av true cw (.int .i64 1)) (fun dp =>
 ad K (ar bS true) (au (some (51,3)) none v21 dp) (fun v24 =>
 ad K (ar bS true) (ah (some (true,3)) v24 aw) (fun dE =>
 ad K (ar bS true) (ay.val v0) (fun er =>
 ad K (ar bS true) (ay.val v6) (fun dq =>
 ad K (ar bS true) (au (some (51,3)) none er dq) (fun v28 =>
 ad K (ar bS true) (ah (some (true,3)) v28 aw) (fun cJ =>
 ad K (ar bS true) (ay.enter 201 [dE,cJ]) (fun v30 =>
 aF K (aO bS v30 (.bool false)) (fun v31 =>
 ao v31 (
 (ai .add av true v5 (.str MI)).wp K U (fun dJ U =>
 j v0 dJ v6 U) (aa R)) (
 j v0 v5 v6 U)))))))))))))) U) (
 (br (some true) v5).wp K U (fun iu U =>
 (ai .gtr av true iu (.int .i64 2500)).wp K U (fun eI U =>
 ao eI (
 aj R (.aG [(.str w_),(.int .i64 5)]) U) (
 aj R (.aG [v5,(.int .i64 0)]) U)) (aa R)) (aa R))) (aa R)) (aa R))) (aa R)) (aa R))
def Pr:Prop :=
 (eO a0).wp K U (fun v3 U =>
 (eO a1).wp K U (fun v4 U =>
 (ay.db [.bool false]).wp K U (fun v6 U =>
 (ae (some 0) v3).wp K U (fun bP U =>
 (ae (some 0) bP).wp K U (fun bK U =>
 (ah aD bK U).wp K U (fun bj U =>
 (ah aD v4 U).wp K U (fun cA U =>
 (au (some (43,6)) none bj cA).wp K U (fun bW U =>
 (ah (some (true,6)) bW U).wp K U (fun bY U =>
 (ay.db [.int .u8 0,.str [],.int .i64 0,.int .i64 0,.int .i64 0,.int .i64 0]).wp K U (fun v7 U =>
 (aU (some (true,6)) v7 bY U).wp K U (fun _ U =>
 (ae (some 0) v7).wp K U (fun v21 U =>
 (ah aD v21 U).wp K U (fun cw U =>
 (gI (some (.i,204)) (some (.agg [.bool false,.bool false,.bool false,.aA])) a2 cw true U).wp K U (fun dp U =>
 (aV dp 0).wp K U (fun v24 U =>
 (aV dp 1).wp K U (fun dE U =>
 (ay.db [.bool false,.bool false,.bool false,.aA]).wp K U (fun v8 U =>
 (aU (some (true,4)) v8 v24 U).wp K U (fun _ U =>
 (hY .not dE).wp K U (fun dq U =>
 ad K (ar dq false) (ae (some 0) v3) (fun cJ =>
 ad K (ar dq false) (ae (some 0) cJ) (fun v30 =>
 ad K (ar dq false) (ah aD v30 U) (fun v31 =>
 ad K (ar dq false) (br (some false) v31) (fun et =>
 ad K (ar dq false) (ah aD v4 U) (fun dJ =>
 ad K (ar dq false) (ai .sub av false et dJ) (fun fG =>
 ad K (ar dq false) (ae (some 5) v7) (fun eN =>
 ad K (ar dq false) (ah aD eN U) (fun fH =>
 ad K (ar dq false) (ay.enter 122 [(.int .i64 1),fG,fH]) (fun v37 =>
 ad K (ar dq false) (hY .not v37) (fun gL =>
 (aO dq (.bool true) gL).wp K U (fun gS U =>
 ad K (ar gS false) (ae (some 0) v8) (fun eY =>
 ad K (ar gS false) (ah aD eY U) (fun iu =>
 ad K (ar gS false) (ae (some 1) v7) (fun eI =>
 ad K (ar gS false) (ah aD eI U) (fun jZ =>
 ad K (ar gS false) (ai .neq av true jZ (.str w_)) (fun gn =>
 ad K (ar gS false) (ai .neq (BT.mk true false false none false) false iu gn) (fun v46 =>
 (aO gS (.bool true) v46).wp K U (fun iL U =>
 ad K (ar iL false) (ae (some 0) v8) (fun v49 =>
 ad K (ar iL false) (ah aD v49 U) (fun fJ =>
 ad K (ar iL false) (ay.val fJ) (fun v51 =>
 ad K (ar v51 true) (ae (some 1) v7) (fun gT =>
 ad K (ar v51 true) (ah aD gT U) (fun v53 =>
 ad K (ar v51 true) (ay.enter 208 [v53]) (fun gi =>
 ad K (ar v51 true) (hY .not gi) (fun gU =>
 ad K (ar iL false) (aO v51 gU (.bool false)) (fun iM =>
 (aO iL (.bool true) iM).wp K U (fun iv U =>
 ao iv (
 (aU aD v6 (.bool false) U).wp K U (fun _ U =>
 bF aD v6 U fun r0 =>
 aj R r0 U) (aa R)) (
 (ae (some 2) v7).wp K U (fun iG U =>
 (ah aD iG U).wp K U (fun v59 U =>
 ag K 122 [(.int .i64 0),(.int .i64 1000000),v59] U (aq (fun mz U =>
 (hY .not mz).wp K U (fun ju U =>
 ad K (ar ju false) (ae (some 3) v7) (fun je =>
 ad K (ar ju false) (ah aD je U) (fun nV =>
 ad K (ar ju false) (ay.enter 122 [(.int .i64 0),(.int .i64 1000000),nV]) (fun lD =>
 ad K (ar ju false) (hY .not lD) (fun nW =>
 (aO ju (.bool true) nW).wp K U (fun nX U =>
 ad K (ar nX false) (ae (some 1) v8) (fun p6 =>
 ad K (ar nX false) (ah aD p6 U) (fun v70 =>
 ad K (ar nX false) (hY .not v70) (fun mA =>
 ad K (ar nX false) (ay.val mA) (fun v72 =>
 ad K (ar v72 true) (ae (some 2) v7) (fun pn =>
 ad K (ar v72 true) (ah aD pn U) (fun oT =>
 ad K (ar v72 true) (ai .neq av true oT (.int .i64 0)) (fun v75 =>
 ad K (ar nX false) (aO v72 v75 (.bool false)) (fun v76 =>
 (aO nX (.bool true) v76).wp K U (fun sL U =>
 ad K (ar sL false) (ae (some 2) v8) (fun yq =>
 ad K (ar sL false) (ah aD yq U) (fun v80 =>
 ad K (ar sL false) (hY .not v80) (fun Dl =>
 ad K (ar sL false) (ay.val Dl) (fun zX =>
 ad K (ar zX true) (ae (some 3) v7) (fun Dm =>
 ad K (ar zX true) (ah aD Dm U) (fun Dp =>
 ad K (ar zX true) (ai .neq av true Dp (.int .i64 0)) (fun v85 =>
 ad K (ar sL false) (aO zX v85 (.bool false)) (fun yr =>
 (aO sL (.bool true) yr).wp K U (fun v87 U =>
 ao v87 (
 (aU aD v6 (.bool false) U).wp K U (fun _ U =>
 bF aD v6 U fun qT =>
 aj R qT U) (aa R)) (
 (ay.db [.aA]).wp K U (fun v10 U =>
 (ah aD v4 U).wp K U (fun FH U =>
 (ai .add av true FH (.int .i64 1)).wp K U (fun FI U =>
 (ay.db [.int .i64 0]).wp K U (fun v11 U =>
 (aU aD v11 FI U).wp K U (fun _ U =>
 (ah (some (true,1)) v3 U).wp K U (fun Dq U =>
 (ah aD v4 U).wp K U (fun v91 U =>
 ag K 81 [Dq,v91] U (aq (fun FJ U =>
 qt K 1 FJ U (fun v93 q U =>
 q.CQ (fun U =>
 (fun aw:St =>
 aF K (ah aD v10 aw) (fun Be =>
 aF K (ae (some 0) v3) (fun Bf =>
 aF K (ae (some 0) Bf) (fun zY =>
 aF K (ah aD zY aw) (fun IK =>
 aF K (au (some (43,6)) none IK v93) (fun RV =>
 aF K (ae (some 0) RV) (fun zV =>
 aF K (ah aD zV aw) (fun D8 =>
 aF K (aJ (some (5,1)) (some [.int .u8 0]) 1 false [(0,D8)]) (fun IC =>
 (eu (some (5,1)) false Be IC U).wp K U (fun Ug U=>cL ((dK zV++[])++((dK zY++[])++((dK v10++[])++[]))) aw U /\
 (aU aD v10 Ug U).wp K U (fun _ U =>
 (fun uP:St =>
 aF K (ah aD v4 uP) (fun xQ =>
 aF K (ae (some 5) v7) (fun v105 =>
 aF K (ah aD v105 uP) (fun D9 =>
 aF K (ai .add av false xQ D9) (fun v107 =>
 aF K (ai .sub av false v107 v93) (fun v109 =>
 aF K (ae (some 0) v3) (fun IE =>
 aF K (ae (some 0) IE) (fun xR =>
 aF K (ah aD xR uP) (fun IF =>
 aF K (au (some (43,6)) none IF v93) (fun BX =>
 aF K (ae (some 5) BX) (fun IG =>
 aF K (ah aD IG uP) (fun q9 =>
 aF K (ay.enter 122 [(.int .i64 1),v109,q9]) (fun v117 =>
 aF K (hY .not v117) (fun IH =>
 ao IH (
 (aU aD v6 (.bool false) U).wp K U (fun _ U =>
 q.r U) (fun _ _=>False)) (
 (ae (some 0) v3).wp K U (fun Ea U =>
 (ae (some 0) Ea).wp K U (fun MB U =>
 (ah aD MB U).wp K U (fun Uh U =>
 (au (some (43,6)) none Uh v93).wp K U (fun v124 U =>
 (ae (some 5) v124).wp K U (fun MC U =>
 (ah aD MC U).wp K U (fun Ui U =>
 (ai .add av false v93 Ui).wp K U (fun v127 U =>
 (aU aD v11 v127 U).wp K U (fun _ U =>
 q.n U) (fun _ _=>False)) (fun _ _=>False)) (fun _ _=>False)) (fun _ _=>False)) (fun _ _=>False)) (fun _ _=>False)) (fun _ _=>False)) (fun _ _=>False)))))))))))))))) U) (fun _ _=>False)) (fun _ _=>False)))))))))) U) U) (fun U =>
 (ah aD v11 U).wp K U (fun Uj U =>
 (ah aD v4 U).wp K U (fun Uk U =>
 (ae (some 5) v7).wp K U (fun v130 U =>
 (ah aD v130 U).wp K U (fun v131 U =>
 (ai .add av false Uk v131).wp K U (fun afi U =>
 (ai .eql av false Uj afi).wp K U (fun zW U =>
 ad K (ar zW true) (ah aD v10 U) (fun BY =>
 ad K (ar zW true) (ae (some 3) v8) (fun afj =>
 ad K (ar zW true) (ah aD afj U) (fun Ul =>
 ao (ar zW true) (
 ag K 209 [BY,Ul] U (aq (fun v138 U =>
 (aO zW v138 (.bool false)).wp K U (fun v139 U =>
 (aU aD v6 v139 U).wp K U (fun _ U =>
 bF aD v6 U fun qU =>
 aj R qU U) (aa R)) (aa R)) (aa R))) (
 (aO zW (.aG []) (.bool false)).wp K U (fun aa9 U =>
 (aU aD v6 aa9 U).wp K U (fun _ U =>
 bF aD v6 U fun xE =>
 aj R xE U) (aa R)) (aa R)))))) (aa R)) (aa R)) (aa R)) (aa R)) (aa R)) (aa R)) (fun i U =>
 GO (Nat.beq i 0) (
 (ah aD v11 U).wp K U (fun aa0 U =>
 (ah aD v4 U).wp K U (fun aa1 U =>
 (ae (some 5) v7).wp K U (fun aa2 U =>
 (ah aD aa2 U).wp K U (fun aa3 U =>
 (ai .add av false aa1 aa3).wp K U (fun aa4 U =>
 (ai .eql av false aa0 aa4).wp K U (fun wv U =>
 ad K (ar wv true) (ah aD v10 U) (fun aa5 =>
 ad K (ar wv true) (ae (some 3) v8) (fun aa6 =>
 ad K (ar wv true) (ah aD aa6 U) (fun aa7 =>
 ao (ar wv true) (
 ag K 209 [aa5,aa7] U (aq (fun aa8 U =>
 (aO wv aa8 (.bool false)).wp K U (fun aba U =>
 (aU aD v6 aba U).wp K U (fun _ U =>
 bF aD v6 U fun BK =>
 aj R BK U) (aa R)) (aa R)) (aa R))) (
 (aO wv (.aG []) (.bool false)).wp K U (fun abb U =>
 (aU aD v6 abb U).wp K U (fun _ U =>
 bF aD v6 U fun xF =>
 aj R xF U) (aa R)) (aa R)))))) (aa R)) (aa R)) (aa R)) (aa R)) (aa R)) (aa R)) (
 False)) (fun U =>
 bF aD v6 U fun HX =>
 aj R HX U) (fun x U=>(aa R) x U)) (aa R))) (aa R)) (aa R)) (aa R)) (aa R)) (aa R)) (aa R)) (aa R))) (aa R)))))))))) (aa R)))))))))) (aa R)))))) (aa R)) (aa R))) (aa R)) (aa R))) (aa R)))))))))) (aa R)))))))) (aa R)))))))))))) (aa R)) (aa R)) (aa R)) (aa R)) (aa R)) (aa R)) (aa R)) (aa R)) (aa R)) (aa R)) (aa R)) (aa R)) (aa R)) (aa R)) (aa R)) (aa R)) (aa R)) (aa R)) (aa R)
def Pt:Prop :=
 ag K 210 [a0,a1] U (aq (fun v10 U =>
 (ai .eql av true v10 (.int .i64 (-1))).wp K U (fun v12 U =>
 ao v12 (
 aj R a0 U) (
 (ai .add av true v10 (.int .i64 1)).wp K U (fun bj U =>
 di 4 [a0,a1,v10,bj] U fun lp v0 v1 v5 v6 U =>
 (br (some false) v0).wp K U (fun bY U =>
 (ai .lss av false v6 bY).wp K U (fun bS U =>
 ao bS (
 gR 4 (fun fm fO iK jV U =>
 (ai .add av true jV (.int .i64 1)).wp K U (fun v21 U =>
 lp fm fO iK v21 U) (aa R)) fun j =>
 (au (some (3,1)) none v0 v6).wp K U (fun v24 U =>
 (ah aD v24 U).wp K U (fun dE U =>
 (jW K.P v1 [dE]).wp K U (fun v28 U =>
 (hY .not v28).wp K U (fun cJ U =>
 ao cJ (
 (au (some (3,1)) none v0 v5).wp K U (fun dJ U =>
 (aU aD dJ dE U).wp K U (fun _ U =>
 (ai .add av true v5 (.int .i64 1)).wp K U (fun eN U =>
 j v0 v1 eN v6 U) (aa R)) (aa R)) (aa R)) (
 j v0 v1 v5 v6 U)) (aa R)) (aa R)) (aa R)) (aa R)) (
 (dt false (some (3,1)) v0 (some v5) none).wp K U (fun gL U =>
 (Ce (some (3,1)) (some [.int .i64 0]) gL U).wp K U (fun _ U =>
 (dt false (some (3,1)) v0 none (some v5)).wp K U (fun eY U =>
 aj R eY U) (aa R)) (aa R)) (aa R))) (aa R)) (aa R)) (aa R))) (aa R)) (aa R))
def Pv:Prop :=
 (ah aD a1 U).wp K U (fun v5 U =>
 (ai .leq av false a0 v5).wp K U (fun v6 U =>
 aj R v6 U) (aa R)) (aa R)
def Px:Prop :=
 gR 1 (fun v4 U =>
 ao v4 (
 aj R (.bool true) U) (
 aj R (.bool false) U)) fun j =>
 (ai .eql av true a0 (.int .u8 2)).wp K U (fun v5 U =>
 ao v5 (
 j v5 U) (
 (ai .eql av true a0 (.int .u8 3)).wp K U (fun v6 U =>
 ao v6 (
 j v6 U) (
 (ai .eql av true a0 (.int .u8 4)).wp K U (fun v7 U =>
 ao v7 (
 j v7 U) (
 (ai .eql av true a0 (.int .u8 5)).wp K U (fun v8 U =>
 ao v8 (
 j v8 U) (
 (ai .eql av true a0 (.int .u8 12)).wp K U (fun v9 U =>
 ao v9 (
 j v9 U) (
 (ai .eql av true a0 (.int .u8 13)).wp K U (fun v10 U =>
 ao v10 (
 j v10 U) (
 (ai .eql av true a0 (.int .u8 14)).wp K U (fun v11 U =>
 ao v11 (
 j v11 U) (
 (ai .eql av true a0 (.int .u8 16)).wp K U (fun v12 U =>
 ao v12 (
 j v12 U) (
 (ai .eql av true a0 (.int .u8 31)).wp K U (fun bP U =>
 ao bP (
 j bP U) (
 (ai .eql av true a0 (.int .u8 32)).wp K U (fun bK U =>
 ao bK (
 j bK U) (
 (ai .eql av true a0 (.int .u8 33)).wp K U (fun bj U =>
 ao bj (
 j bj U) (
 (ai .eql av true a0 (.int .u8 34)).wp K U (fun cA U =>
 ao cA (
 j cA U) (
 (ai .eql av true a0 (.int .u8 37)).wp K U (fun bW U =>
 j bW U) (aa R))) (aa R))) (aa R))) (aa R))) (aa R))) (aa R))) (aa R))) (aa R))) (aa R))) (aa R))) (aa R))) (aa R))) (aa R)
def Pz:Prop :=
 (ee (some [(0,1),(1,1),(2,1)]) (some [.int .u8 0,.str [],.int .i64 0]) none [(0,(.int .u8 1)),(1,a0)]).wp K U (fun v4 U =>
 ag K 211 [v4] U (aq (fun v5 U =>
 aj R v5 U) (aa R))) (aa R)
def PB:Prop :=
 ag K 141 [a0] U (aq (fun v4 U =>
 ad K (ar v4 false) (ay.val a0) (fun v6 =>
 ad K (ar v4 false) (ai .eql av true v6 (.int .u8 12)) (fun v7 =>
 (aO v4 (.bool true) v7).wp K U (fun v8 U =>
 ad K (ar v8 false) (ay.val a0) (fun v10 =>
 ad K (ar v8 false) (ai .eql av true v10 (.int .u8 14)) (fun v11 =>
 (aO v8 (.bool true) v11).wp K U (fun v12 U =>
 ad K (ar v12 false) (ay.val a0) (fun bK =>
 ad K (ar v12 false) (ai .eql av true bK (.int .u8 25)) (fun bj =>
 (aO v12 (.bool true) bj).wp K U (fun cA U =>
 ad K (ar cA false) (ay.val a0) (fun bY =>
 ad K (ar cA false) (ai .eql av true bY (.int .u8 26)) (fun bS =>
 (aO cA (.bool true) bS).wp K U (fun v20 U =>
 aj R v20 U) (aa R)))) (aa R)))) (aa R)))) (aa R)))) (aa R))
def PD:Prop :=
 (ai .geq av true a0 (.int .i64 0)).wp K U (fun v4 U =>
 ad K (ar v4 true) (ay.val a0) (fun v6 =>
 ad K (ar v4 true) (ai .leq av true v6 (.int .i64 1000000)) (fun v7 =>
 (aO v4 v7 (.bool false)).wp K U (fun v8 U =>
 aj R v8 U) (aa R)))) (aa R)
def PF:Prop :=
 di 2 [a0,(.int .i64 0)] U fun lp v0 v3 U =>
 (br (some false) v0).wp K U (fun v6 U =>
 (ai .lss av false v3 v6).wp K U (fun v7 U =>
 ao v7 (
 (au (some (5,1)) none v0 v3).wp K U (fun v12 U =>
 (ah aD v12 U).wp K U (fun bP U =>
 ag K 191 [bP] U (aq (fun bK U =>
 (hY .not bK).wp K U (fun bj U =>
 ao bj (
 aj R (.bool false) U) (
 (ai .add av true v3 (.int .i64 1)).wp K U (fun v9 U =>
 lp v0 v9 U) (aa R))) (aa R)) (aa R))) (aa R)) (aa R)) (
 aj R (.bool true) U)) (aa R)) (aa R)
def PH:Prop :=
 ag K 141 [a0] U (aq (fun v4 U =>
 ad K (ar v4 false) (ay.val a0) (fun v6 =>
 ad K (ar v4 false) (ai .eql av true v6 (.int .u8 8)) (fun v7 =>
 (aO v4 (.bool true) v7).wp K U (fun v8 U =>
 aj R v8 U) (aa R)))) (aa R))
def PJ:Prop :=
 di 3 [a0,a1,(.int .i64 0)] U fun lp v0 v1 v5 U =>
 (br (some false) v0).wp K U (fun v8 U =>
 (ai .lss av false v5 v8).wp K U (fun v9 U =>
 ao v9 (
 (au (some (5,1)) none v0 v5).wp K U (fun bK U =>
 (ah aD bK U).wp K U (fun bj U =>
 (ai .neq av false bj v1).wp K U (fun bW U =>
 ao bW (
 aj R (.bool false) U) (
 (ai .add av true v5 (.int .i64 1)).wp K U (fun v11 U =>
 lp v0 v1 v11 U) (aa R))) (aa R)) (aa R)) (aa R)) (
 aj R (.bool true) U)) (aa R)) (aa R)
def PL:Prop :=
 (ai .eql av true a0 (.int .u8 6)).wp K U (fun v4 U =>
 ad K (ar v4 false) (ay.val a0) (fun v6 =>
 ad K (ar v4 false) (ai .eql av true v6 (.int .u8 7)) (fun v7 =>
 (aO v4 (.bool true) v7).wp K U (fun v8 U =>
 aj R v8 U) (aa R)))) (aa R)
def PN:Prop :=
 (ai .geq av true a0 (.int .u8 9)).wp K U (fun v4 U =>
 ad K (ar v4 true) (ay.val a0) (fun v6 =>
 ad K (ar v4 true) (ai .leq av true v6 (.int .u8 34)) (fun v7 =>
 (aO v4 v7 (.bool false)).wp K U (fun v8 U =>
 aj R v8 U) (aa R)))) (aa R)
def PQ:Prop :=
 di 2 [a0,(.int .i64 0)] U fun lp v0 v3 U =>
 (br (some false) v0).wp K U (fun v6 U =>
 (ai .lss av false v3 v6).wp K U (fun v7 U =>
 ao v7 (
 (au (some (5,1)) none v0 v3).wp K U (fun v12 U =>
 (ah aD v12 U).wp K U (fun bP U =>
 ag K 141 [bP] U (aq (fun bK U =>
 (hY .not bK).wp K U (fun bj U =>
 ao bj (
 aj R (.bool false) U) (
 (ai .add av true v3 (.int .i64 1)).wp K U (fun v9 U =>
 lp v0 v9 U) (aa R))) (aa R)) (aa R))) (aa R)) (aa R)) (
 aj R (.bool true) U)) (aa R)) (aa R)
def PU:Prop :=
 di 2 [a0,(.int .i64 0)] U fun lp v0 v3 U =>
 (br (some false) v0).wp K U (fun v6 U =>
 (ai .lss av false v3 v6).wp K U (fun v7 U =>
 ao v7 (
 (au (some (5,1)) none v0 v3).wp K U (fun v12 U =>
 (ah aD v12 U).wp K U (fun bP U =>
 ag K 142 [bP] U (aq (fun bK U =>
 (hY .not bK).wp K U (fun bj U =>
 ao bj (
 aj R (.bool false) U) (
 (ai .add av true v3 (.int .i64 1)).wp K U (fun v9 U =>
 lp v0 v9 U) (aa R))) (aa R)) (aa R))) (aa R)) (aa R)) (
 aj R (.bool true) U)) (aa R)) (aa R)
def PW:Prop :=
 di 2 [a0,(.int .i64 0)] U fun lp v0 v3 U =>
 (br (some false) v0).wp K U (fun v6 U =>
 (ai .lss av false v3 v6).wp K U (fun v7 U =>
 ao v7 (
 (au (some (5,1)) none v0 v3).wp K U (fun v12 U =>
 (ah aD v12 U).wp K U (fun bP U =>
 ag K 142 [bP] U (aq (fun bK U =>
 (hY .not bK).wp K U (fun bj U =>
 ad K (ar bj true) (ay.val v0) (fun bW =>
 ad K (ar bj true) (ay.val v3) (fun bY =>
 ad K (ar bj true) (au (some (5,1)) none bW bY) (fun bS =>
 ad K (ar bj true) (ah aD bS U) (fun v20 =>
 ad K (ar bj true) (ai .neq av true v20 (.int .u8 35)) (fun v21 =>
 (aO bj v21 (.bool false)).wp K U (fun cw U =>
 ad K (ar cw true) (ay.val v0) (fun v24 =>
 ad K (ar cw true) (ay.val v3) (fun dE =>
 ad K (ar cw true) (au (some (5,1)) none v24 dE) (fun er =>
 ad K (ar cw true) (ah aD er U) (fun dq =>
 ad K (ar cw true) (ai .neq av true dq (.int .u8 36)) (fun v28 =>
 (aO cw v28 (.bool false)).wp K U (fun cJ U =>
 ao cJ (
 aj R (.bool false) U) (
 (ai .add av true v3 (.int .i64 1)).wp K U (fun v9 U =>
 lp v0 v9 U) (aa R))) (aa R))))))) (aa R))))))) (aa R)) (aa R))) (aa R)) (aa R)) (
 aj R (.bool true) U)) (aa R)) (aa R)
def PY:Prop :=
 (aJ (some (178,1)) (some [.int .i64 0]) 1 false [(0,(.int .i64 0))]).wp K U (fun v4 U =>
 ag K 151 [a0,v4] U (aq (fun v5 U =>
 (hY .not v5).wp K U (fun v6 U =>
 aj R v6 U) (aa R)) (aa R))) (aa R)
def P0:Prop :=
 di 4 [a0,a1,a2,(.int .i64 0)] U fun lp v0 v1 v2 v4 U =>
 (ah aD v1 U).wp K U (fun v9 U =>
 (br (some true) v9).wp K U (fun v10 U =>
 (ai .lss av false v4 v10).wp K U (fun v11 U =>
 ao v11 (
 (ah aD v1 U).wp K U (fun v12 U =>
 (eh true none none v12 v4).wp K U (fun bK U =>
 gR 6 (fun fm fO lN eC Dk v24 U =>
 ao v24 (
 (ai .add av true eC (.int .i64 1)).wp K U (fun v28 U =>
 lp fm fO lN v28 U) (aa R)) (
 (ai .eql av true Dk (.int .u8 126)).wp K U (fun v30 U =>
 ao v30 (
 (ah aD fO U).wp K U (fun et U =>
 (dt true none et (some eC) none).wp K U (fun fG U =>
 ag K 148 [fG,(.str mW)] U (aq (fun eN U =>
 (aV eN 0).wp K U (fun fH U =>
 (aV eN 1).wp K U (fun v37 U =>
 (aV eN 2).wp K U (fun gL U =>
 (jW K.P fm [eC,fH]).wp K U (fun iu U =>
 (hY .not iu).wp K U (fun eI U =>
 ao eI (
 aj R (.aG []) U) (
 (br (some true) fH).wp K U (fun v46 U =>
 (ai .add av false eC v46).wp K U (fun iL U =>
 lp fm fO lN iL U) (aa R)) (aa R))) (aa R)) (aa R)) (aa R)) (aa R)) (aa R)) (aa R))) (aa R)) (aa R)) (
 (jW K.P fm [eC,(.str w_)]).wp K U (fun bW U =>
 (hY .not bW).wp K U (fun bY U =>
 ao bY (
 aj R (.aG []) U) (
 (ah aD lN U).wp K U (fun v20 U =>
 (jW K.P v20 [eC]).wp K U (fun cw U =>
 (ai .add av false eC cw).wp K U (fun dp U =>
 lp fm fO lN dp U) (aa R)) (aa R)) (aa R))) (aa R)) (aa R))) (aa R))) fun j =>
 (ai .eql av true bK (.int .u8 32)).wp K U (fun dE U =>
 ao dE (
 j v0 v1 v2 v4 bK dE U) (
 (ai .eql av true bK (.int .u8 10)).wp K U (fun er U =>
 j v0 v1 v2 v4 bK er U) (aa R))) (aa R)) (aa R)) (aa R)) (
 aj R (.aG []) U)) (aa R)) (aa R)) (aa R)
def aaN:Prop :=
 ag K 212 [a0,a1] U (aq (fun v9 U =>
 (aV v9 0).wp K U (fun v10 U =>
 (aV v9 1).wp K U (fun v11 U =>
 (aV v9 2).wp K U (fun v12 U =>
 aj R (.aG [v10,v11,v12]) U) (aa R)) (aa R)) (aa R)) (aa R))
def P5:Prop :=
 di 2 [a0,(.int .i64 0)] U fun lp v0 v2 U =>
 (br (some true) v0).wp K U (fun v5 U =>
 (ai .lss av false v2 v5).wp K U (fun v6 U =>
 ad K (ar v6 true) (ay.val v0) (fun v8 =>
 ad K (ar v6 true) (ay.val v2) (fun v9 =>
 ad K (ar v6 true) (eh true none none v8 v9) (fun v10 =>
 ad K (ar v6 true) (aJ (some (178,1)) (some [.int .i64 0]) 3 false [(0,(.int .i64 2)),(1,(.int .i64 3)),(2,(.int .i64 4))]) (fun v11 =>
 ad K (ar v6 true) (ay.enter 151 [v10,v11]) (fun v12 =>
 (aO v6 v12 (.bool false)).wp K U (fun bP U =>
 ao bP (
 (ai .add av true v2 (.int .i64 1)).wp K U (fun bj U =>
 lp v0 bj U) (aa R)) (
 aj R v2 U)) (aa R))))))) (aa R)) (aa R)
def P7:Prop :=
 (ay.db [.int .u8 0,.str [],.int .i64 0]).wp K U (fun v2 U =>
 (ee none (some [.str [],.str []]) (some (2,9,1)) [(0,(.str cR)),(1,(.str gd))]).wp K U (fun v6 U =>
 di 4 [a0,v2,v6,(.int .i64 0)] U fun lp v0 lN jV v7 U =>
 (ai .lss av true v7 (.int .i64 2)).wp K U (fun v8 U =>
 ao v8 (
 (eh false (some (2,9,1)) aD jV v7).wp K U (fun v9 U =>
 ag K 213 [v0,v9] U (aq (fun v12 U =>
 ao v12 (
 (ee (some [(0,1),(1,1),(2,1)]) (some [.int .u8 0,.str [],.int .i64 0]) none [(0,(.int .u8 4)),(1,v9)]).wp K U (fun bK U =>
 (aU (some (true,3)) lN bK U).wp K U (fun _ U =>
 bF (some (true,3)) lN U fun r0 =>
 aj R (.aG [r0,(.int .i64 0)]) U) (aa R)) (aa R)) (
 (ai .add av true v7 (.int .i64 1)).wp K U (fun bj U =>
 lp v0 lN jV bj U) (aa R))) (aa R))) (aa R)) (
 (ai .eql av true v0 (.str w_)).wp K U (fun bW U =>
 ad K (ar bW false) (ay.val v0) (fun bS =>
 ad K (ar bW false) (eh true none none bS (.int .i64 0)) (fun v20 =>
 ad K (ar bW false) (ay.enter 214 [(.str dX),v20]) (fun v21 =>
 ad K (ar bW false) (ai .lss av true v21 (.int .i64 0)) (fun cw =>
 (aO bW (.bool true) cw).wp K U (fun dp U =>
 ao dp (
 (ee (some [(0,1),(1,1),(2,1)]) (some [.int .u8 0,.str [],.int .i64 0]) none []).wp K U (fun v24 U =>
 (aU (some (true,3)) lN v24 U).wp K U (fun _ U =>
 bF (some (true,3)) lN U fun qT =>
 aj R (.aG [qT,(.int .i64 4)]) U) (aa R)) (aa R)) (
 (dt true none v0 none (some (.int .i64 1))).wp K U (fun er U =>
 (ee (some [(0,1),(1,1),(2,1)]) (some [.int .u8 0,.str [],.int .i64 0]) none [(0,(.int .u8 4)),(1,er)]).wp K U (fun dq U =>
 (aU (some (true,3)) lN dq U).wp K U (fun _ U =>
 bF (some (true,3)) lN U fun qU =>
 aj R (.aG [qU,(.int .i64 0)]) U) (aa R)) (aa R)) (aa R))) (aa R)))))) (aa R))) (aa R)) (aa R)) (aa R)
def aaO:Prop :=
 ag K 216 [a0] U (aq (fun v7 U =>
 ag K 215 [a1,v7] U (aq (fun v8 U =>
 aj R v8 U) (aa R))) (aa R))
def Qa:Prop :=
 (br (some true) a0).wp K U (fun v6 U =>
 di 4 [a0,(.int .i64 0),v6,(.int .i64 0)] U fun lp v0 v3 jV v7 U =>
 (ai .lss av false v7 jV).wp K U (fun v8 U =>
 ao v8 (
 (eh true none none v0 v7).wp K U (fun v12 U =>
 (aJ (some (178,1)) (some [.int .i64 0]) 1 false [(0,(.int .i64 2))]).wp K U (fun bP U =>
 ag K 151 [v12,bP] U (aq (fun bK U =>
 (hY .not bK).wp K U (fun bj U =>
 ao bj (
 aj R (.int .i64 4) U) (
 (ai .mul av true (.int .i64 10) v3).wp K U (fun bW U =>
 (eh true none none v0 v7).wp K U (fun v20 U =>
 (ai .sub av true v20 (.int .u8 48)).wp K U (fun v21 U =>
 (wJ (some .i64) true false false v21).wp K U (fun cw U =>
 (ai .add av false bW cw).wp K U (fun dp U =>
 (u5 dp (.int .i64 1000001)).wp K U (fun v24 U =>
 (ai .add av true v7 (.int .i64 1)).wp K U (fun dE U =>
 lp v0 v24 jV dE U) (aa R)) (aa R)) (aa R)) (aa R)) (aa R)) (aa R)) (aa R))) (aa R)) (aa R))) (aa R)) (aa R)) (
 (br (some true) v0).wp K U (fun v28 U =>
 (ai .gtr av true v28 (.int .i64 1)).wp K U (fun cJ U =>
 ad K (ar cJ true) (ay.val v0) (fun v31 =>
 ad K (ar cJ true) (eh true none none v31 (.int .i64 0)) (fun et =>
 ad K (ar cJ true) (ai .eql av true et (.int .u8 48)) (fun dJ =>
 (aO cJ dJ (.bool false)).wp K U (fun fG U =>
 ao fG (
 aj R (.int .i64 4) U) (
 (ai .gtr av true v3 (.int .i64 1000000)).wp K U (fun v37 U =>
 ao v37 (
 aj R (.int .i64 3) U) (
 aj R (.int .i64 0) U)) (aa R))) (aa R))))) (aa R)) (aa R))) (aa R)) (aa R)
def Vp:Prop :=
 (eO a0).wp K U (fun v2 U =>
 (ah (some (true,1)) v2 U).wp K U (fun v12 U =>
 ag K 65 [v12,a1] U (aq (fun bK U =>
 (ai .neq av true bK (.int .i64 0)).wp K U (fun cA U =>
 ao cA (
 aj R (.aG [(.str w_),bK]) U) (
 (ai .gtr av true a1 (.int .i64 0)).wp K U (fun bS U =>
 ao bS (
 (ae (some 0) v2).wp K U (fun v20 U =>
 (ah aD v20 U).wp K U (fun v21 U =>
 ag K 66 [v21,a1] U (aq (fun dp U =>
 (aV dp 0).wp K U (fun v24 U =>
 (aV dp 1).wp K U (fun dE U =>
 aj R (.aG [v24,dE]) U) (aa R)) (aa R)) (aa R))) (aa R)) (aa R)) (
 (ae (some 0) v2).wp K U (fun er U =>
 (ah aD er U).wp K U (fun dq U =>
 ag K 67 [dq,(.int .i64 0)] U (aq (fun v28 U =>
 di 4 [v2,(.str w_),v28,(.int .i64 0)] U fun lp lN v7 v8 v9 U =>
 (br (some false) v8).wp K U (fun v31 U =>
 (ai .lss av false v9 v31).wp K U (fun et U =>
 ao et (
 (fun aw:St =>
 aF K (ae (some 0) lN) (fun fH =>
 aF K (ah aD fH aw) (fun v37 =>
 aF K (au (some (3,1)) none v8 v9) (fun v40 =>
 aF K (ah aD v40 aw) (fun eY =>
 ag K 66 [v37,eY] U (aq (fun iu U=>cL ((dK v40++[])++((dK fH++[])++[])) aw U /\
 aF K (aV iu 0) (fun eI =>
 aF K (aV iu 1) (fun jZ =>
 (ai .neq av true jZ (.int .i64 0)).wp K U (fun v46 U =>
 ao v46 (
 aj R (.aG [(.str w_),jZ]) U) (
 (ai .add av true eI (.str mW)).wp K U (fun fJ U =>
 (ai .add av false v7 fJ).wp K U (fun v51 U =>
 (ai .add av true v9 (.int .i64 1)).wp K U (fun fG U =>
 lp lN v51 v8 fG U) (aa R)) (aa R)) (aa R))) (aa R)))) (aa R))))))) U) (
 (br (some true) v7).wp K U (fun v53 U =>
 (ai .gtr av true v53 (.int .i64 2500)).wp K U (fun gi U =>
 ao gi (
 aj R (.aG [(.str w_),(.int .i64 5)]) U) (
 aj R (.aG [v7,(.int .i64 0)]) U)) (aa R)) (aa R))) (aa R)) (aa R)) (aa R))) (aa R)) (aa R))) (aa R))) (aa R)) (aa R))) (aa R)) (aa R)
def Vq:Prop :=
 (eO a0).wp K U (fun v1 U =>
 (ae (some 0) v1).wp K U (fun v4 U =>
 (ah aD v4 U).wp K U (fun v5 U =>
 (br (some false) v5).wp K U (fun v6 U =>
 (ai .gtr av true v6 (.int .i64 900)).wp K U (fun v7 U =>
 ao v7 (
 aj R (.int .i64 5) U) (
 (ah (some (true,1)) v1 U).wp K U (fun v9 U =>
 (ee (some [(0,1)]) (some [.aA]) none [(0,v9)]).wp K U (fun v10 U =>
 ag K 68 [v10] U (aq (fun v11 U =>
 (hY .not v11).wp K U (fun v12 U =>
 ao v12 (
 aj R (.int .i64 4) U) (
 (ah (some (true,1)) v1 U).wp K U (fun bK U =>
 ag K 69 [bK] U (aq (fun bj U =>
 ao bj (
 aj R (.int .i64 5) U) (
 aj R (.int .i64 0) U)) (aa R))) (aa R))) (aa R)) (aa R))) (aa R)) (aa R))) (aa R)) (aa R)) (aa R)) (aa R)) (aa R)
def Vr:Prop :=
 (eO a0).wp K U (fun v1 U =>
 (ae (some 0) v1).wp K U (fun v10 U =>
 (ah aD v10 U).wp K U (fun v11 U =>
 (br (some false) v11).wp K U (fun bP U =>
 (ai .gtr av true bP (.int .i64 900)).wp K U (fun bK U =>
 ao bK (
 aj R (.int .i64 5) U) (
 ag K 70 [v11] U (aq (fun cA U =>
 (hY .not cA).wp K U (fun bW U =>
 ad K (ar bW false) (ay.val v11) (fun bS =>
 ad K (ar bW false) (au (some (43,6)) none bS (.int .i64 0)) (fun v20 =>
 ad K (ar bW false) (ae (some 0) v20) (fun v21 =>
 ad K (ar bW false) (ah aD v21 U) (fun cw =>
 ad K (ar bW false) (ai .neq av true cw (.int .u8 1)) (fun dp =>
 (aO bW (.bool true) dp).wp K U (fun v24 U =>
 ao v24 (
 aj R (.int .i64 4) U) (
 di 2 [v11,(.int .i64 0)] U fun lp v3 v4 U =>
 (br (some false) v3).wp K U (fun dq U =>
 (ai .lss av false v4 dq).wp K U (fun v28 U =>
 ao v28 (
 ag K 67 [v3,v4] U (aq (fun dJ U =>
 di 5 [v3,v4,.aA,dJ,(.int .i64 0)] U fun xi nN eC v5 v6 v7 U =>
 (br (some false) v6).wp K U (fun fH U =>
 (ai .lss av false v7 fH).wp K U (fun v37 U =>
 ao v37 (
 (au (some (3,1)) none v6 v7).wp K U (fun jZ U =>
 (ah aD jZ U).wp K U (fun gn U =>
 (au (some (43,6)) none nN gn).wp K U (fun v46 U =>
 (ae (some 0) v46).wp K U (fun iL U =>
 (ah aD iL U).wp K U (fun hZ U =>
 (aJ (some (5,1)) (some [.int .u8 0]) 1 false [(0,hZ)]).wp K U (fun v49 U =>
 (eu (some (5,1)) false v5 v49 U).wp K U (fun fJ U =>
 (ai .add av true v7 (.int .i64 1)).wp K U (fun gS U =>
 xi nN eC fJ v6 gS U) (aa R)) (aa R)) (aa R)) (aa R)) (aa R)) (aa R)) (aa R)) (aa R)) (
 (ai .gtr av true eC (.int .i64 0)).wp K U (fun gT U =>
 ad K (ar gT true) (ay.val nN) (fun gi =>
 ad K (ar gT true) (ay.val eC) (fun gU =>
 ad K (ar gT true) (au (some (43,6)) none gi gU) (fun iM =>
 ad K (ar gT true) (ae (some 0) iM) (fun iv =>
 ad K (ar gT true) (ah aD iv U) (fun iG =>
 ad K (ar gT true) (ai .eql av true iG (.int .u8 1)) (fun v59 =>
 (aO gT v59 (.bool false)).wp K U (fun mz U =>
 ad K (ar mz false) (ay.val nN) (fun lC =>
 ad K (ar mz false) (ay.val eC) (fun je =>
 ad K (ar mz false) (au (some (43,6)) none lC je) (fun nV =>
 ad K (ar mz false) (ah (some (true,6)) nV U) (fun lD =>
 ad K (ar mz false) (ay.enter 71 [lD]) (fun nW =>
 ad K (ar mz false) (hY .not nW) (fun nX =>
 (aO mz (.bool true) nX).wp K U (fun j0 U =>
 ad K (ar j0 false) (ay.val nN) (fun v70 =>
 ad K (ar j0 false) (ay.val eC) (fun mA =>
 ad K (ar j0 false) (au (some (43,6)) none v70 mA) (fun v72 =>
 ad K (ar j0 false) (ae (some 0) v72) (fun pn =>
 ad K (ar j0 false) (ah aD pn U) (fun oT =>
 ad K (ar j0 false) (ay.val v5) (fun v75 =>
 ad K (ar j0 false) (ay.enter 72 [oT,v75]) (fun v76 =>
 ad K (ar j0 false) (hY .not v76) (fun sL =>
 (aO j0 (.bool true) sL).wp K U (fun sa U =>
 ao sa (
 aj R (.int .i64 4) U) (
 (ai .add av true eC (.int .i64 1)).wp K U (fun v30 U =>
 lp nN v30 U) (aa R))) (aa R)))))))))) (aa R)))))))) (aa R)))))))) (aa R))) (aa R)) (aa R)) (aa R))) (
 ag K 73 [v3] U (aq (fun v80 U =>
 di 3 [v3,v80,(.int .i64 0)] U fun HK Eb v8 v9 U =>
 (br (some false) Eb).wp K U (fun Dm U =>
 (ai .lss av false v9 Dm).wp K U (fun Dp U =>
 ao Dp (
 (au (some (3,1)) none v8 v9).wp K U (fun FI U =>
 (ah aD FI U).wp K U (fun Dq U =>
 (ai .gtr av true Dq (.int .i64 60)).wp K U (fun v91 U =>
 ao v91 (
 aj R (.int .i64 5) U) (
 (ai .add av true v9 (.int .i64 1)).wp K U (fun yr U =>
 HK Eb v8 yr U) (aa R))) (aa R)) (aa R)) (aa R)) (
 ag K 67 [Eb,(.int .i64 0)] U (aq (fun v93 U =>
 (br (some false) v93).wp K U (fun Be U =>
 (ai .gtr av true Be (.int .i64 24)).wp K U (fun Bf U =>
 ao Bf (
 aj R (.int .i64 5) U) (
 aj R (.int .i64 0) U)) (aa R)) (aa R)) (aa R)))) (aa R)) (aa R)) (aa R)))) (aa R)) (aa R))) (aa R))))))) (aa R)) (aa R)))) (aa R)) (aa R)) (aa R)) (aa R)) (aa R)
def Vs:Prop :=
 (eO a0).wp K U (fun v1 U =>
 (ay.db [.aA]).wp K U (fun v2 U =>
 (ay.db [.int .i64 0]).wp K U (fun v3 U =>
 (ay.db [.int .i64 0]).wp K U (fun v4 U =>
 (ah aD v1 U).wp K U (fun bK U =>
 ag K 74 [bK] U (aq (fun bj U =>
 (aV bj 0).wp K U (fun cA U =>
 (aV bj 1).wp K U (fun bW U =>
 (ai .neq av true bW (.int .i64 0)).wp K U (fun bS U =>
 ao bS (
 (aU aD v2 .aA U).wp K U (fun _ U =>
 (aU aD v3 cA U).wp K U (fun _ U =>
 (aU aD v4 bW U).wp K U (fun _ U =>
 bF aD v2 U fun r0 =>
 bF aD v3 U fun r1 =>
 bF aD v4 U fun r2 =>
 aj R (.aG [r0,r1,r2]) U) (aa R)) (aa R)) (aa R)) (
 (ay.db [.aA]).wp K U (fun v7 U =>
 (ah aD v1 U).wp K U (fun dp U =>
 ag K 76 [dp,(.func (.func 75) [] [v7])] U (aq (fun dE U =>
 qt K 2 dE U (fun er dq q U =>
 q.CQ (fun U =>
 (ai .neq av true dq (.str w_)).wp K U (fun cJ U =>
 ao cJ (
 q.n U) (
 (ah aD v1 U).wp K U (fun v31 U =>
 (dt true none v31 (some er) none).wp K U (fun dJ U =>
 ag K 77 [dJ] U (aq (fun fG U =>
 (aV fG 0).wp K U (fun eN U =>
 (aV fG 1).wp K U (fun fH U =>
 (ay.db [.int .u8 0,.str [],.int .i64 0]).wp K U (fun v11 U =>
 (aU (some (true,3)) v11 eN U).wp K U (fun _ U =>
 gR 7 (fun lN nN eC kW v9 Di v12 U =>
 (ai .neq av true v12 (.int .i64 0)).wp K U (fun gn U =>
 ao gn (
 (aU aD lN .aA U).wp K U (fun _ U =>
 (aU aD nN v9 U).wp K U (fun _ U =>
 (aU aD eC v12 U).wp K U (fun _ U =>
 q.r U) (fun _ _=>False)) (fun _ _=>False)) (fun _ _=>False)) (
 (ae (some 2) Di).wp K U (fun v49 U =>
 (aU aD v49 v9 U).wp K U (fun _ U =>
 (ah aD kW U).wp K U (fun fJ U =>
 (ah (some (true,3)) Di U).wp K U (fun v51 U =>
 (aJ (some (51,3)) (some [.int .u8 0,.str [],.int .i64 0]) 1 false [(0,v51)]).wp K U (fun gT U =>
 (eu (some (51,3)) false fJ gT U).wp K U (fun v53 U =>
 (aU aD kW v53 U).wp K U (fun _ U =>
 q.n U) (fun _ _=>False)) (fun _ _=>False)) (fun _ _=>False)) (fun _ _=>False)) (fun _ _=>False)) (fun _ _=>False)) (fun _ _=>False))) (fun _ _=>False)) fun j =>
 (ai .eql av true fH (.int .i64 0)).wp K U (fun gL U =>
 ad K (ar gL true) (ah aD v7 U) (fun v40 =>
 ad K (ar gL true) (br (some false) v40) (fun eY =>
 ad K (ar gL true) (ai .eql av true eY (.int .i64 900)) (fun iu =>
 (aO gL iu (.bool false)).wp K U (fun eI U =>
 ao eI (
 j v2 v3 v4 v7 er v11 (.int .i64 5) U) (
 j v2 v3 v4 v7 er v11 fH U)) (fun _ _=>False))))) (fun _ _=>False)) (fun _ _=>False)) (fun _ _=>False)) (fun _ _=>False)) (fun _ _=>False)) (fun _ _=>False))) (fun _ _=>False)) (fun _ _=>False))) (fun _ _=>False)) U) (fun U =>
 (ah aD v7 U).wp K U (fun gi U =>
 (aU aD v2 gi U).wp K U (fun _ U =>
 (aU aD v3 (.int .i64 0) U).wp K U (fun _ U =>
 (aU aD v4 (.int .i64 0) U).wp K U (fun _ U =>
 bF aD v2 U fun qT =>
 bF aD v3 U fun HZ =>
 bF aD v4 U fun ae7 =>
 aj R (.aG [qT,HZ,ae7]) U) (aa R)) (aa R)) (aa R)) (aa R)) (fun i U =>
 GO (Nat.beq i 0) (
 (ah aD v7 U).wp K U (fun MG U =>
 (aU aD v2 MG U).wp K U (fun _ U =>
 (aU aD v3 (.int .i64 0) U).wp K U (fun _ U =>
 (aU aD v4 (.int .i64 0) U).wp K U (fun _ U =>
 bF aD v2 U fun qU =>
 bF aD v3 U fun H0 =>
 bF aD v4 U fun ae8 =>
 aj R (.aG [qU,H0,ae8]) U) (aa R)) (aa R)) (aa R)) (aa R)) (
 False)) (fun U =>
 bF aD v2 U fun xE =>
 bF aD v3 U fun Ti =>
 bF aD v4 U fun ae9 =>
 aj R (.aG [xE,Ti,ae9]) U) (fun x U=>(aa R) x U)) (aa R))) (aa R)) (aa R))) (aa R)) (aa R)) (aa R)) (aa R))) (aa R)) (aa R)) (aa R)) (aa R)) (aa R)
def Vt:Prop :=
 (br (some false) a0).wp K U (fun v5 U =>
 (ai .gtr av true v5 (.int .i64 1000)).wp K U (fun v6 U =>
 ao v6 (
 aj R (.bool false) U) (
 di 2 [a0,(.int .i64 0)] U fun lp v0 v3 U =>
 (br (some false) v0).wp K U (fun v9 U =>
 (ai .lss av false v3 v9).wp K U (fun v10 U =>
 ao v10 (
 (au (some (43,6)) none v0 v3).wp K U (fun bj U =>
 (ae (some 1) bj).wp K U (fun cA U =>
 (ah aD cA U).wp K U (fun bW U =>
 (br (some true) bW).wp K U (fun bY U =>
 (ai .gtr av true bY (.int .i64 100)).wp K U (fun bS U =>
 ao bS (
 aj R (.bool false) U) (
 (ai .add av true v3 (.int .i64 1)).wp K U (fun v12 U =>
 lp v0 v12 U) (aa R))) (aa R)) (aa R)) (aa R)) (aa R)) (aa R)) (
 aj R (.bool true) U)) (aa R)) (aa R))) (aa R)) (aa R)
def aaR:Prop :=
 (eO a0).wp K U (fun v2 U =>
 (ah (some (true,1)) v2 U).wp K U (fun bP U =>
 ag K 24 [bP] U (aq (fun bK U =>
 (hY .not bK).wp K U (fun bj U =>
 ao bj (
 ag K 17 [] U (aq (fun cA U =>
 aj R cA U) (aa R))) (
 (ah (some (true,1)) v2 U).wp K U (fun bY U =>
 ag K 26 [bY] U (aq (fun bS U =>
 ag K 25 [bS] U (aq (fun v20 U =>
 (aV v20 0).wp K U (fun v21 U =>
 (aV v20 1).wp K U (fun cw U =>
 (ah (some (true,1)) v2 U).wp K U (fun v24 U =>
 ag K 27 [v24] U (aq (fun dE U =>
 (aV dE 0).wp K U (fun er U =>
 (aV dE 1).wp K U (fun dq U =>
 (ah (some (true,1)) v2 U).wp K U (fun cJ U =>
 ag K 26 [cJ] U (aq (fun v30 U =>
 ag K 28 [v30,a1] U (aq (fun et U =>
 (aV et 0).wp K U (fun dJ U =>
 (aV et 1).wp K U (fun fG U =>
 (ah (some (true,1)) v2 U).wp K U (fun fH U =>
 ag K 29 [fH,a1] U (aq (fun gL U =>
 (aV gL 0).wp K U (fun gS U =>
 (aV gL 1).wp K U (fun v40 U =>
 (fun aw:St =>
 aF K (ah (some (true,1)) v2 aw) (fun eY =>
 aF K (ah (some (true,1)) v2 aw) (fun jZ =>
 ag K 26 [eY] U (aq (fun iu U=>cL ((dK v2++[])++((dK v2++[])++[])) aw U /\
 ag K 30 [iu] U (aq (fun eI U=>cL ((dK v2++[])++((dK v2++[])++[])) aw U /\
 ag K 31 [jZ] U (aq (fun gn U=>cL ((dK v2++[])++((dK v2++[])++[])) aw U /\
 aF K (ai .eql av false eI gn) (fun v46 =>
 ad K (ar v46 true) (ay.val cw) (fun hZ =>
 ad K (ar v46 true) (ay.val dq) (fun v49 =>
 ad K (ar v46 true) (ai .eql av false hZ v49) (fun fJ =>
 aF K (aO v46 fJ (.bool false)) (fun v51 =>
 ad K (ar v51 true) (ay.val v21) (fun v53 =>
 ad K (ar v51 true) (ay.val er) (fun gi =>
 ad K (ar v51 true) (ai .eql av false v53 gi) (fun gU =>
 aF K (aO v51 gU (.bool false)) (fun iM =>
 ad K (ar iM true) (ay.val fG) (fun iG =>
 ad K (ar iM true) (ay.val v40) (fun v59 =>
 ad K (ar iM true) (ai .eql av false iG v59) (fun mz =>
 aF K (aO iM mz (.bool false)) (fun ju =>
 ad K (ar ju true) (ay.val dJ) (fun je =>
 ad K (ar ju true) (ay.val gS) (fun nV =>
 ad K (ar ju true) (ai .eql av false je nV) (fun lD =>
 aF K (aO ju lD (.bool false)) (fun nW =>
 ad K (ar nW true) (ay.enter 17 []) (fun j0 =>
 aF K (aO nW j0 (.bool false)) (fun p6 =>
 aj R p6 U)))))))))))))))))))) (aa R))) (aa R))) (aa R))))) U) (aa R)) (aa R)) (aa R))) (aa R)) (aa R)) (aa R)) (aa R))) (aa R))) (aa R)) (aa R)) (aa R)) (aa R))) (aa R)) (aa R)) (aa R)) (aa R))) (aa R))) (aa R))) (aa R)) (aa R))) (aa R)) (aa R)
def Vk:Prop :=
 (eO a0).wp K U (fun v1 U =>
 (ae (some 0) v1).wp K U (fun v3 U =>
 (ah aD v3 U).wp K U (fun v4 U =>
 ag K 49 [v4] U (aq (fun v5 U =>
 aj R v5 U) (aa R))) (aa R)) (aa R)) (aa R)
def Vl:Prop :=
 (eO a0).wp K U (fun v1 U =>
 (ah (some (true,1)) v1 U).wp K U (fun v4 U =>
 ag K 28 [v4,(.int .i64 0)] U (aq (fun v5 U =>
 (aV v5 0).wp K U (fun v6 U =>
 (aV v5 1).wp K U (fun v7 U =>
 aj R (.aG [v6,v7]) U) (aa R)) (aa R)) (aa R))) (aa R)) (aa R)
def Vm:Prop :=
 (eO a0).wp K U (fun v1 U =>
 (ay.db [.aA]).wp K U (fun v2 U =>
 (ae (some 0) v1).wp K U (fun v3 U =>
 (ah aD v3 U).wp K U (fun v4 U =>
 (eu (some (43,6)) true .aA v4 U).wp K U (fun v5 U =>
 (ee (some [(0,1)]) (some [.aA]) none [(0,v5)]).wp K U (fun v6 U =>
 (aU (some (true,1)) v2 v6 U).wp K U (fun _ U =>
 bF (some (true,1)) v2 U fun r0 =>
 aj R r0 U) (aa R)) (aa R)) (aa R)) (aa R)) (aa R)) (aa R)) (aa R)
def Vn:Prop :=
 (eO a0).wp K U (fun v1 U =>
 (ah (some (true,1)) v1 U).wp K U (fun v4 U =>
 ag K 29 [v4,(.int .i64 0)] U (aq (fun v5 U =>
 (aV v5 0).wp K U (fun v6 U =>
 (aV v5 1).wp K U (fun v7 U =>
 aj R (.aG [v6,v7]) U) (aa R)) (aa R)) (aa R))) (aa R)) (aa R)
def Vo:Prop :=
 (eO a0).wp K U (fun v2 U =>
 (eO a1).wp K U (fun v3 U =>
 (ah (some (true,1)) v2 U).wp K U (fun v6 U =>
 (ah aD v3 U).wp K U (fun v7 U =>
 ag K 62 [v6,v7,(.func (.func 63) [] [v3])] U (aq (fun v9 U =>
 (aV v9 0).wp K U (fun v10 U =>
 (aV v9 1).wp K U (fun v11 U =>
 aj R (.aG [v10,v11]) U) (aa R)) (aa R)) (aa R))) (aa R)) (aa R)) (aa R)) (aa R)
end
section
variable {a0 a1 a2 a3 a4 a5 a6:AV} {R:cO->St->Prop} {U:St}
theorem TA (h:Vu a0 R U):ag K 57 [a0] U R:=bB Tryz.f57 abL h
theorem TB (h:Vv a0 a1 a2 R U):ag K 62 [a0,a1,a2] U R:=bB Tryz.f62 abM h
theorem TC (h:Vw a0 a1 R U):ag K 63 [a0,a1] U R:=bB Tryz.f63 abN h
theorem Ij (h:Mr a0 a1 R U):ag K 64 [a0,a1] U R:=bB Tryz.f64 abO h
theorem TD (h:Vx a0 a1 R U):ag K 65 [a0,a1] U R:=bB Tryz.f65 abP h
theorem TE (h:Vy a0 a1 R U):ag K 66 [a0,a1] U R:=bB Tryz.f66 abQ h
theorem TF (h:Vz a0 a1 R U):ag K 67 [a0,a1] U R:=bB Tryz.f67 abR h
theorem TG (h:VA a0 R U):ag K 68 [a0] U R:=bB Tryz.f68 abS h
theorem TH (h:VB a0 R U):ag K 69 [a0] U R:=bB Tryz.f69 abT h
theorem TJ (h:VC a0 R U):ag K 70 [a0] U R:=bB Tryz.f70 abU h
theorem TK (h:VD a0 R U):ag K 71 [a0] U R:=bB Tryz.f71 abV h
theorem TL (h:VE a0 a1 R U):ag K 72 [a0,a1] U R:=bB Tryz.f72 abW h
theorem TM (h:VF a0 R U):ag K 73 [a0] U R:=bB Tryz.f73 abX h
theorem TN (h:VG a0 R U):ag K 74 [a0] U R:=bB Tryz.f74 abY h
theorem TO (h:VH a0 a1 R U):ag K 75 [a0,a1] U R:=bB Tryz.f75 abZ h
theorem TP (h:VI a0 a1 R U):ag K 76 [a0,a1] U R:=bB Tryz.f76 ab0 h
theorem TQ (h:VJ a0 R U):ag K 77 [a0] U R:=bB Tryz.f77 ab1 h
theorem TR (h:VK a0 a1 R U):ag K 81 [a0,a1] U R:=bB Tryz.f81 ab2 h
theorem TS (h:VL a0 R U):ag K 93 [a0] U R:=bB Tryz.f93 ab3 h
theorem Pa (h:O9 a0 R U):ag K 111 [a0] U R:=bB Tryz.f111 Xz h
theorem Pc (h:Pb a0 R U):ag K 112 [a0] U R:=bB Tryz.f112 XA h
theorem Pe (h:Pd a0 a1 a2 R U):ag K 122 [a0,a1,a2] U R:=bB Tryz.f122 XB h
theorem Pg (h:Pf a0 a1 R U):ag K 123 [a0,a1] U R:=bB Tryz.f123 XC h
theorem Pj (h:Ph a0 R U):ag K 124 [a0] U R:=bB Tryz.f124 XD h
theorem Pm (h:Pk a0 a1 R U):ag K 125 [a0,a1] U R:=bB Tryz.f125 XE h
theorem Po (h:Pn a0 R U):ag K 126 [a0] U R:=bB Tryz.f126 XF h
theorem zP (h:C7 a0 a1 R U):ag K 128 [a0,a1] U R:=bB Tryz.f128 XG h
theorem Pq (h:Pp a0 R U):ag K 129 [a0] U R:=bB Tryz.f129 XH h
theorem Ps (h:Pr a0 a1 a2 R U):ag K 131 [a0,a1,a2] U R:=bB Tryz.f131 XI h
theorem Pu (h:Pt a0 a1 R U):ag K 132 [a0,a1] U R:=bB Tryz.f132 XJ h
theorem Pw (h:Pv a0 a1 R U):ag K 133 [a0,a1] U R:=bB Tryz.f133 XK h
theorem Py (h:Px a0 R U):ag K 134 [a0] U R:=bB Tryz.f134 XL h
theorem PA (h:Pz a0 R U):ag K 135 [a0] U R:=bB Tryz.f135 XM h
theorem PC (h:PB a0 R U):ag K 136 [a0] U R:=bB Tryz.f136 XN h
theorem PE (h:PD a0 R U):ag K 137 [a0] U R:=bB Tryz.f137 XO h
theorem PG (h:PF a0 R U):ag K 138 [a0] U R:=bB Tryz.f138 XP h
theorem PI (h:PH a0 R U):ag K 139 [a0] U R:=bB Tryz.f139 XQ h
theorem PK (h:PJ a0 a1 R U):ag K 140 [a0,a1] U R:=bB Tryz.f140 XR h
theorem PM (h:PL a0 R U):ag K 141 [a0] U R:=bB Tryz.f141 XS h
theorem PO (h:PN a0 R U):ag K 142 [a0] U R:=bB Tryz.f142 XT h
theorem PT (h:PQ a0 R U):ag K 143 [a0] U R:=bB Tryz.f143 XU h
theorem PV (h:PU a0 R U):ag K 144 [a0] U R:=bB Tryz.f144 XV h
theorem PX (h:PW a0 R U):ag K 145 [a0] U R:=bB Tryz.f145 XW h
theorem PZ (h:PY a0 R U):ag K 146 [a0] U R:=bB Tryz.f146 XX h
theorem P3 (h:P0 a0 a1 a2 R U):ag K 147 [a0,a1,a2] U R:=bB Tryz.f147 XY h
theorem P4 (h:aaN a0 a1 R U):ag K 148 [a0,a1] U R:=bB Tryz.f148 XZ h
theorem P6 (h:P5 a0 R U):ag K 149 [a0] U R:=bB Tryz.f149 X0 h
theorem P8 (h:P7 a0 R U):ag K 150 [a0] U R:=bB Tryz.f150 X1 h
theorem P9 (h:aaO a0 a1 R U):ag K 151 [a0,a1] U R:=bB Tryz.f151 X2 h
theorem Qb (h:Qa a0 R U):ag K 152 [a0] U R:=bB Tryz.f152 X3 h
theorem Tu (h:Vp a0 a1 R U):ag K 29 [a0,a1] U R:=bB Tryz.f29 abG h
theorem Tv (h:Vq a0 R U):ag K 30 [a0] U R:=bB Tryz.f30 abH h
theorem Tw (h:Vr a0 R U):ag K 31 [a0] U R:=bB Tryz.f31 abI h
theorem Ty (h:Vs a0 R U):ag K 33 [a0] U R:=bB Tryz.f33 abJ h
theorem Tz (h:Vt a0 R U):ag K 49 [a0] U R:=bB Tryz.f49 abK h
theorem W7 (h:aaR a0 a1 R U):ag K 4 [a0,a1] U R:=bB Tryz.f4 adY h
theorem Tp (h:Vk a0 R U):ag K 24 [a0] U R:=bB Tryz.f24 abB h
theorem Tq (h:Vl a0 R U):ag K 25 [a0] U R:=bB Tryz.f25 abC h
theorem Tr (h:Vm a0 R U):ag K 26 [a0] U R:=bB Tryz.f26 abD h
theorem Ts (h:Vn a0 R U):ag K 27 [a0] U R:=bB Tryz.f27 abE h
theorem Tt (h:Vo a0 a1 R U):ag K 28 [a0,a1] U R:=bB Tryz.f28 abF h
end
end Go.Rip
