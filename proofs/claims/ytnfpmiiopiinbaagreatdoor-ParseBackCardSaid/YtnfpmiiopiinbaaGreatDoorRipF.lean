/- Lemmas for the proof: no conditions. -/
import Derived.Test.YtnfpmiiopiinbaaGreatDoorRipZz
import Derived.Test.YtnfpmiiopiinbaaGreatDoorRipD
set_option linter.unusedVariables false
set_option linter.unusedSimpArgs false
set_option linter.loopingSimpArgs false
set_option maxRecDepth 100000
namespace Go.Rip
open Go.Proofs
def acO:An:=ai (ai (bh (ai (.cd (ai .z) .z)) (ai .z)))
def acP:An:=ai (ai (bh (ai (.cd (ai (ai (ai (ai (ai .z))))) .z)) (ai (.sq (some [0,3]) (ai (.cd cL cL)) (ai (ai (.sq (some [0,3]) (ai (.cd cL .z)) (ai (ai (ai (ai (ai (ai (ai .z))))))))))))))
def acQ:An:=ai (ai (ai (bh (bh (.rg [] [69] none) (.cd (ai .z) .z)) (ai .z))))
def acR:An:=ai (ai .z)
def acS:An:=ai (ai (bh (.bk (ai (.cd (ai .z) (ai (.cd (ai .z) .z))))) (bh (ai (ai (.cd (ai (ai .z)) .z))) (ai .z))))
def acT:An:=ai (ai .z)
def acU:An:=ai (bh (ai (.cd (bh (.rg [] [] (some ⟨[(true,0),(true,1),(true,2),(false,3),(true,4)],[⟨524288,4,0⟩,⟨1048576,0,0⟩,⟨2097152,1572864,3⟩,⟨4194304,2097152,4⟩,⟨64,4194304,15⟩]⟩)) (ai (ai .z))) .z)) (ai (bh (ai (.bk (.rf cL (.bk (ai (bh (ai (.cd (ai .z) .z)) cL)))))) (bh (ai (.cd (ai .z) .z)) (ai .z)))))
def acV:An:=ai (bh (bh (.rg [] [] (some ⟨[(true,0),(true,1),(true,2),(true,3),(true,4),(true,5),(true,6),(true,7),(true,8),(true,9),(true,10),(true,11),(true,12),(true,13),(true,14),(true,15),(true,16),(true,17),(true,18),(true,19),(true,20),(true,21),(true,22),(true,23),(true,24),(true,25),(true,26)],[⟨32,2,0⟩,⟨64,32,1⟩,⟨128,64,2⟩,⟨256,128,4⟩,⟨512,256,8⟩,⟨1024,512,16⟩,⟨2048,1026,32⟩,⟨4096,3072,96⟩,⟨8192,5120,160⟩,⟨16384,9216,288⟩,⟨32768,17408,544⟩,⟨65536,33792,1056⟩,⟨131072,66560,2080⟩,⟨262144,132096,4128⟩,⟨524288,262144,8224⟩,⟨1048576,524290,16384⟩,⟨2097152,1572864,49152⟩,⟨4194304,2621440,81920⟩,⟨8388608,4718592,147456⟩,⟨16777216,8912896,278528⟩,⟨33554432,17301504,540672⟩,⟨67108864,524290,16384⟩,⟨134217728,67633152,2113536⟩,⟨268435456,134742016,4210688⟩,⟨536870912,268959744,8404992⟩,⟨1073741824,570949632,17842176⟩,⟨2147483648,1074266112,33570816⟩]⟩)) (.cd (ai .z) .z)) (ai (bh (ai (.bk (.lp [1,3,36,37] (ai (bh (.cd .z .z) (bh (.bk (ai (ai (.cd (ai .z) .z)))) cL)))))) (ai .z))))
def acW:An:=bh (.rg [1,2] [] none) (bh (.rg [3] [] none) (bh (bh (.rg [7,8,9,10] [] none) (.bk (.lp [1,2,3,8,9,10] (bh (.rg [11] [] none) (bh (.cd .z .z) (bh (.bk (bh (.rg [4,5,12,13,14] [] none) (bh (.rg [3,15,16,17] [] none) (bh (bh (.rg [18,19,20] [] none) (.cd (bh (.rg [2] [] none) .z) .z)) (.rg [3,21,22,23,24,25,26,27] [] none))))) (.rg [10,28] [] none))))))) (bh (.rg [6] [] none) (bh (bh (.rg [29,30,31] [] none) (.bk (.rf .z (.bk (.rg [33,34] [] none))))) (bh (.rg [2,35,36] [] none) .z)))))
def acX:An:=ai (bh (ai (.cd (ai .z) .z)) (bh (ai (.bk (.lp [0,9,10] (ai (bh (.cd .z .z) (bh (.bk (ai (ai (.cd (ai .z) .z)))) cL)))))) (ai .z)))
def acY:An:=ai (ai .z)
def acZ:An:=ai (ai .z)
def ac0:An:=ai (ai (bh (.bk (ai (.cd (ai .z) (ai (.cd (ai .z) (ai (.cd (ai .z) (ai (.cd (ai .z) (ai (.cd (ai .z) .z))))))))))) (ai .z)))
def ac1:An:=ai (bh (.rg [] [] (some ⟨[(true,0),(true,1),(true,2),(true,3),(true,4),(true,5),(true,6),(true,7),(true,8),(false,9),(false,10)],[⟨64,8,0⟩,⟨128,4,0⟩,⟨256,128,2⟩,⟨512,256,4⟩,⟨1024,8,0⟩,⟨2048,1536,24⟩,⟨4096,2048,32⟩,⟨8192,4096,64⟩,⟨16384,8256,129⟩,⟨32,0,0⟩,⟨0,16416,1023⟩]⟩)) (ai .z))
def ac2:An:=ai (ai (bh (.bk (ai (.cd (ai .z) (ai (.cd (ai .z) .z))))) (bh (ai (ai (.cd (ai (ai .z)) .z))) (ai .z))))
def ac3:An:=ai (ai (bh (ai (.bk (.lp [2,4,13,14] (ai (bh (.cd .z .z) (bh (.bk (ai cL)) cL)))))) (ai .z)))
def ac4:An:=bh (.rg [2] [] none) (bh (bh (.rg [3,4] [] none) (.cd (bh (.rg [2] [] none) .z) .z)) (bh (.rg [2,5,6,7] [] none) .z))
def ac5:An:=ai (bh (ai (.cd (ai .z) .z)) (bh (ai (.bk (.lp [8,9,10] (ai (bh (.cd .z .z) (bh (.bk (ai (ai (.cd (ai .z) .z)))) cL)))))) (ai .z)))
def ac6:An:=ai (ai .z)
def Za:An:=ai (bh (ai (.cd (ai .z) .z)) (ai (ai .z)))
def Zb:An:=ai (ai .z)
def Zc:An:=ai (.cd cL .z)
def Zd:An:=ai (ai (ai .z))
def Ze:An:=ai (bh (ai (.cd (ai .z) .z)) (ai (ai (ai (ai (ai (ai .z)))))))
def Zf:An:=ai (ai .z)
def Zg:An:=ai (.bk (.lp [0,1,2] (bh (ai (.cd .z .z)) (.bk cL))))
def Zh:An:=ai (ai (ai (ai (ai .z))))
def Zi:An:=ai (ai (.sq (some [3]) (.bk (ai (.cd cL (ai (.cd cL (ai (.cd cL (ai cL)))))))) (ai .z)))
def Zj:An:=ai (ai (ai (ai (.sq (some [3,4]) (.bk (.lp [0,3,4] (bh (ai (.cd .z .z)) (.bk (bh (ai (bh (.rg [] [61] none) (.cd .z .z))) (ai cL)))))) (bh (ai (.cd (ai .z) .z)) (ai .z))))))
def Zk:An:=bh (.rg [2] [] none) (bh (.rg [3,6,7,8,9,10] [] none) (bh (bh (.rg [11,12,13,14,15,16] [] none) (.bk (.lp [3,14,15,16] (bh (.rg [17] [] none) (bh (.cd .z .z) (bh (.bk (bh (.rg [5,18,19] [] none) (.rg [3,20,21,22,23] [] none))) (.rg [16,24] [] none))))))) (bh (.rg [25,26,27,28,29] [] none) (bh (.rg [2,30] [] none) .z))))
def Zl:An:=ai (bh (.rg [] [178] none) .z)
def Zm:An:=ai (ai .z)
def Zn:An:=ai (ai (bh (ai (.bk (.rf cL (.bk cL)))) (.bk (ai (.cd cL (ai (.cd cL (ai (.cd cL (ai (.cd cL (ai (.cd cL cL)))))))))))))
def Zo:An:=ai (bh (ai (ai (.cd (ai .z) .z))) (ai (bh (ai (.bk (.lp [0,5,13,14,15] (ai (bh (.cd .z .z) (bh (.bk (ai (.sq (some [0,5,7,13,14,15]) (bh (.rg [] [] (some ⟨[(true,0),(true,1),(true,2),(true,3),(true,4),(true,5),(true,6),(true,7),(true,8),(true,9),(true,10)],[⟨1048576,64,0⟩,⟨2097152,1048576,1⟩,⟨4194304,2097152,2⟩,⟨8388608,4194305,4⟩,⟨16777216,4194368,4⟩,⟨33554432,20971520,20⟩,⟨67108864,46137344,44⟩,⟨134217728,71303168,68⟩,⟨268435456,4194432,4⟩,⟨536870912,406847488,388⟩,⟨1073741824,541065216,516⟩]⟩)) (.cd cL .z)) cL))) cL)))))) (bh (ai (.cd (ai .z) .z)) (ai .z)))))
def Zp:An:=ai (ai (ai (ai .z)))
def Zq:An:=ai (ai .z)
def Zr:An:=ai (ai (ai (bh (bh (.rg [] [122,208] none) (.cd (ai .z) .z)) (bh (bh (.rg [] [122] none) (.cd (ai .z) .z)) (ai (ai (bh (ai (.bk (.rf cL (.bk (bh (.rg [] [] (some ⟨[(true,0),(true,1),(true,2),(true,3),(true,4),(true,5),(true,6),(true,7),(true,8),(false,9),(false,10)],[⟨19807040628566084398385987584,1024,0⟩,⟨39614081257132168796771975168,8,0⟩,⟨79228162514264337593543950336,39614081257132168796771975168,2⟩,⟨158456325028528675187087900672,79228162514264337593543950336,4⟩,⟨316912650057057350374175801344,4096,0⟩,⟨633825300114114700748351602688,475368975085586025561263702016,24⟩,⟨1267650600228229401496703205376,633825300114114700748351602688,32⟩,⟨2535301200456458802993406410752,1267650600228229401496703205376,64⟩,⟨5070602400912917605986812821504,2535301200456458802993406410752,128⟩,⟨10141204801825835211973625643008,5090409441541483690385198809088,257⟩,⟨0,10141204801825835211973625644032,1023⟩]⟩)) (bh (bh (.rg [] [] (some ⟨[(true,0),(true,1),(true,2),(true,3),(true,4),(true,5),(true,6),(true,7),(true,8),(true,9),(true,10),(true,11),(true,12),(true,13),(true,14)],[⟨20282409603651670423947251286016,16,0⟩,⟨40564819207303340847894502572032,128,0⟩,⟨81129638414606681695789005144064,40564819207303340847894502572032,2⟩,⟨162259276829213363391578010288128,101412048018258352119736256430080,5⟩,⟨324518553658426726783156020576256,4096,0⟩,⟨649037107316853453566312041152512,486777830487640090174734030864384,24⟩,⟨1298074214633706907132624082305024,8,0⟩,⟨2596148429267413814265248164610048,1298074214633706907132624082305024,64⟩,⟨5192296858534827628530496329220096,2596148429267413814265248164610048,128⟩,⟨10384593717069655257060992658440192,4096,0⟩,⟨20769187434139310514121985316880384,15576890575604482885591488987660288,768⟩,⟨41538374868278621028243970633760768,20769187434139310514121985316880384,1024⟩,⟨83076749736557242056487941267521536,41538374868278621028243970633760768,2048⟩,⟨166153499473114484112975882535043072,83725786843874095510054253308674048,4128⟩,⟨332306998946228968225951765070086144,166153499473114484112975882535043072,8192⟩]⟩)) (.cd (ai .z) .z)) cL)))))) (ai .z))))))))
def Zs:An:=ai (ai (bh (ai (.cd (ai .z) .z)) (bh (ai (.bk (.lp [0,1,5,6] (bh (ai (.cd .z .z)) (.sq (some [0,1,5,6]) (.bk (ai (ai (.cd (ai cL) .z)))) cL))))) (ai (ai .z)))))
def Zt:An:=ai (ai .z)
def Zu:An:=ai (ai .z)
def Zv:An:=ai (.bk (.lp [0,1,2,4] (bh (ai (.cd .z .z)) (.bk (ai (.bk (.sq (some [0,1,2,4,14,24]) (ai (.cd .z cL)) (.cd cL (ai (.cd (ai (bh (ai (.cd .z .z)) cL)) (bh (ai (.cd .z .z)) cL)))))))))))
def Zw:An:=ai (ai .z)
def Zx:An:=ai (bh (.bk (.lp [0,2] (bh (bh (.rg [] [151] none) (.cd .z .z)) (.bk cL)))) (ai .z))
def Zy:An:=ai (bh (ai (.bk (.lp [0,2,6,7] (ai (bh (.cd .z .z) (bh (.bk (ai (ai (.cd (ai .z) .z)))) cL)))))) (bh (bh (.rg [] [214] none) (.cd (ai .z) .z)) (ai .z)))
def Zz:An:=ai (ai .z)
def ZA:An:=ai (ai (bh (ai (.bk (.lp [0,3,6,7] (ai (bh (.cd .z .z) (bh (.bk (ai (bh (ai (.cd (ai .z) .z)) cL))) cL)))))) (bh (.bk (ai (.cd (ai .z) (ai (.cd (ai .z) .z))))) (ai .z))))
def acI:An:=ai (bh (.bk (ai (.cd (ai .z) (ai (.cd (ai .z) (ai (.cd (ai .z) .z))))))) (ai .z))
def acJ:An:=ai (bh (ai (ai (.cd (ai .z) .z))) (ai (ai (bh (ai (.bk (.rf (ai cL) (.bk (bh (ai (.cd .z .z)) (ai (.sq (some [2,3,4,7,9,11,12]) (ai (.cd cL .z)) (bh (ai (.cd (ai .z) .z)) (ai cL))))))))) (ai .z)))))
def acK:An:=ai (ai (ai .z))
def acL:An:=ai (ai .z)
def acM:An:=ai (bh (ai (.cd (ai .z) .z)) (bh (ai (.bk (.lp [0,1,5] (bh (ai (.cd .z .z)) (bh (.bk (bh (.rg [] [] (some ⟨[(true,0),(true,1),(true,2),(true,3),(true,4),(true,5),(true,6),(true,7),(true,8)],[⟨131072,1,0⟩,⟨262144,32,0⟩,⟨524288,393216,3⟩,⟨1048576,524288,4⟩,⟨2097152,2,0⟩,⟨4194304,32,0⟩,⟨8388608,6291456,48⟩,⟨16777216,8388608,64⟩,⟨33554432,17825792,136⟩]⟩)) (.cd (ai .z) .z))) cL))))) (ai .z)))
def acN:An:=ai (bh (ai (.cd (ai .z) .z)) (bh (ai (.bk (.lp [0,3] (bh (ai (.cd .z .z)) (bh (.bk (ai (.cd (ai .z) .z))) cL))))) (ai .z)))
def aeQ:An:=ai (bh (ai (.cd (ai .z) .z)) (ai (bh (ai (.cd (ai .z) .z)) (ai (bh (ai (.cd (ai (bh (.rg [] [17] none) .z)) .z)) (ai (ai (bh (.rg [] [17,22] none) .z))))))))
def acC:An:=ai (ai (bh (ai (.cd (ai .z) .z)) (ai (bh (.bk (.lp [2,5,8] (bh (bh (.rg [] [] (some ⟨[(true,0),(true,1),(true,2),(true,3),(true,4),(true,5),(true,6),(true,7),(true,8),(true,9)],[⟨16777216,32,0⟩,⟨33554432,16777216,1⟩,⟨67108864,33554432,2⟩,⟨134217728,67108864,4⟩,⟨268435456,32,0⟩,⟨536870912,268435456,16⟩,⟨1073741824,536870912,32⟩,⟨2147483648,1073741824,64⟩,⟨4294967296,2147483648,128⟩,⟨8589934592,4429185024,264⟩]⟩)) (.cd .z .z)) (.bk (ai (bh (ai (.cd (ai .z) .z)) cL)))))) (ai (ai .z))))))
def acD:An:=ai (ai .z)
def acE:An:=ai (ai .z)
def acF:An:=ai (ai .z)
def acG:An:=bh (.rg [1,2] [] none) (bh (.rg [3,4,5,6] [] none) .z)
def acH:An:=ai (ai .z)
section
variable (a0 a1 a2 a3 a4 a5 a6:AV) (R:cR->St->Prop) (U:St)
def W0:Prop :=
 ae K 33 [a0] U (ag (fun v10 U =>
 (aT v10 0).wp K U (fun v11 U =>
 (aT v10 1).wp K U (fun v12 U =>
 (aT v10 2).wp K U (fun ck U =>
 (ax .neq aS true ck (.int .i64 0)).wp K U (fun bZ U =>
 aw bZ (
 ak R (.aH [.aY,v12,ck]) U) (
 (cw (some true) a0).wp K U (fun v20 U =>
 ae K 96 [] U (ag (fun v21 U =>
 ae K 97 [] U (ag (fun dL U =>
 (dO (some [(0,1),(1,1),(2,1),(3,1),(4,1)]) (some [.ah,.int .i64 0,.int .i64 0,.jE,.jE]) none [(0,v11),(2,v20),(3,v21),(4,dL)]).wp K U (fun dZ U =>
 (eS dZ).wp K U (fun v24 U =>
 ak R (.aH [v24,(.int .i64 0),(.int .i64 0)]) U) (aa R)) (aa R)) (aa R))) (aa R))) (aa R))) (aa R)) (aa R)) (aa R)) (aa R)) (aa R))
def W1:Prop :=
 ae K 99 [a0,(.int .u8 2)] U (ag (fun v5 U =>
 ae K 100 [a0,(.str dI)] U (ag (fun v7 U =>
 aw v7 (
 ae K 101 [a0] U (ag (fun v10 U =>
 (aW v5).wp K U (fun v11 U =>
 (af (some 0) v11).wp K U (fun v12 U =>
 (af (some 1) v12).wp K U (fun ck U =>
 (aF aE ck v10 U).wp K U (fun _ U =>
 ae K 102 [a0,(.str ez)] U (ag (fun bZ U =>
 ae K 104 [a0] U (ag (fun cu U =>
 (ar (some (87,1)) (some [.aY]) 1 false [(0,cu)]).wp K U (fun da U =>
 ae K 103 [v5,da] U (ag (fun v20 U =>
 ae K 102 [a0,(.str cH)] U (ag (fun dL U =>
 ak R v5 U) (aa R))) (aa R))) (aa R)) (aa R))) (aa R))) (aa R)) (aa R)) (aa R)) (aa R)) (aa R))) (
 (aW v5).wp K U (fun eR U =>
 (af (some 0) eR).wp K U (fun fR U =>
 (af (some 0) fR).wp K U (fun dW U =>
 (aF aE dW (.int .u8 4) U).wp K U (fun _ U =>
 jR 2 (fun v0 v3 U =>
 ae K 101 [v0] U (ag (fun gH U =>
 (aW v3).wp K U (fun lN U =>
 (af (some 0) lN).wp K U (fun v40 U =>
 (af (some 1) v40).wp K U (fun jv U =>
 (aF aE jv gH U).wp K U (fun _ U =>
 ae K 102 [v0,(.str cP)] U (ag (fun iW U =>
 jR 2 (fun iy yn U =>
 ae K 102 [iy,(.str cC)] U (ag (fun mJ U =>
 ae K 102 [iy,(.str ez)] U (ag (fun qg U =>
 ae K 108 [iy] U (ag (fun v59 U =>
 (ar (some (87,1)) (some [.aY]) 1 false [(0,v59)]).wp K U (fun uJ U =>
 ae K 103 [yn,uJ] U (ag (fun nK U =>
 ae K 102 [iy,(.str gY)] U (ag (fun pN U =>
 ae K 109 [iy] U (ag (fun vr U =>
 (ar (some (87,1)) (some [.aY]) 1 false [(0,vr)]).wp K U (fun tG U =>
 ae K 103 [yn,tG] U (ag (fun xe U =>
 ae K 102 [iy,(.str cH)] U (ag (fun v70 U =>
 ak R yn U) (aa R))) (aa R))) (aa R)) (aa R))) (aa R))) (aa R))) (aa R)) (aa R))) (aa R))) (aa R))) fun Pw =>
 (ar (some (9,1)) (some [.str []]) 1 false [(0,(.str cC))]).wp K U (fun nA U =>
 ae K 105 [v0,nA] U (ag (fun v46 U =>
 (kr .not v46).wp K U (fun nB U =>
 aw nB (
 ae K 106 [v0,v3,(.func (.func 107) [v0] [])] U (ag (fun o0 U =>
 Pw v0 v3 U) (aa R))) (
 Pw v0 v3 U)) (aa R)) (aa R))) (aa R)) (aa R))) (aa R)) (aa R)) (aa R)) (aa R)) (aa R))) fun j =>
 ae K 100 [a0,(.str ga)] U (ag (fun ej U =>
 aw ej (
 (aW v5).wp K U (fun v31 U =>
 (af (some 0) v31).wp K U (fun fI U =>
 (af (some 0) fI).wp K U (fun fC U =>
 (aF aE fC (.int .u8 3) U).wp K U (fun _ U =>
 j a0 v5 U) (aa R)) (aa R)) (aa R)) (aa R)) (
 ae K 102 [a0,(.str eg)] U (ag (fun hU U =>
 j a0 v5 U) (aa R)))) (aa R))) (aa R)) (aa R)) (aa R)) (aa R))) (aa R))) (aa R))
def W2:Prop :=
 (aD.cE [.ah]).wp K U (fun v2 U =>
 (dO (some [(0,1),(1,1),(2,1),(3,1),(4,1),(5,1)]) (some [.int .u8 0,.str [],.int .i64 0,.int .i64 0,.int .i64 0,.int .i64 0]) none [(0,(.int .u8 1))]).wp K U (fun v6 U =>
 (dO (some [(0,6),(6,1)]) (some [.int .u8 0,.str [],.int .i64 0,.int .i64 0,.int .i64 0,.int .i64 0,.ah]) none [(0,v6),(1,a0)]).wp K U (fun v8 U =>
 (eS v8).wp K U (fun v9 U =>
 ae K 110 [v9] U (ag (fun v11 U =>
 (dO (some [(0,1)]) (some [.ah]) none [(0,v11)]).wp K U (fun v12 U =>
 (aD.cE [.ah]).wp K U (fun v5 U =>
 (aF (some (true,1)) v5 v12 U).wp K U (fun _ U =>
 (af (some 0) v5).wp K U (fun ck U =>
 (aj aE ck U).wp K U (fun ct U =>
 (cw (some false) ct).wp K U (fun bZ U =>
 (ax .gtr aS true bZ (.int .i64 900)).wp K U (fun cO U =>
 ao K (aP cO false) (aj (some (true,1)) v5 U) (fun cu =>
 ao K (aP cO false) (aD.enter 69 [cu]) (fun da =>
 (bQ cO (.bool true) da).wp K U (fun v20 U =>
 aw v20 (
 (dO (some [(0,1)]) (some [.ah]) none []).wp K U (fun v21 U =>
 (aF (some (true,1)) v2 v21 U).wp K U (fun _ U =>
 bq (some (true,1)) v2 U fun r0 =>
 ak R (.aH [r0,(.int .i64 5)]) U) (aa R)) (aa R)) (
 (aj (some (true,1)) v5 U).wp K U (fun dL U =>
 (aF (some (true,1)) v2 dL U).wp K U (fun _ U =>
 bq (some (true,1)) v2 U fun nW =>
 ak R (.aH [nW,(.int .i64 0)]) U) (aa R)) (aa R))) (aa R)))) (aa R)) (aa R)) (aa R)) (aa R)) (aa R)) (aa R)) (aa R)) (aa R))) (aa R)) (aa R)) (aa R)) (aa R)
def W3:Prop :=
 (eS a0).wp K U (fun v1 U =>
 (aj (some (true,3)) v1 U).wp K U (fun v3 U =>
 (ar (some (9,1)) (some [.str []]) 3 false [(0,(.str dI)),(1,(.str ga)),(2,(.str eg))]).wp K U (fun v4 U =>
 ae K 121 [v3,v4] U (ag (fun v5 U =>
 ak R v5 U) (aa R))) (aa R)) (aa R)) (aa R)
def W4:Prop :=
 (eS a0).wp K U (fun v3 U =>
 (aj (some (true,1)) v3 U).wp K U (fun v9 U =>
 ae K 30 [v9] U (ag (fun v10 U =>
 (ax .neq aS true v10 (.int .i64 0)).wp K U (fun ck U =>
 aw ck (
 ak R (.aH [(.str w_),v10]) U) (
 (af (some 0) v3).wp K U (fun dv U =>
 (aj aE dv U).wp K U (fun cu U =>
 (cw (some false) cu).wp K U (fun da U =>
 (ax .sub aS true da (.int .i64 1)).wp K U (fun v20 U =>
 ae K 122 [(.int .i64 0),v20,a1] U (ag (fun dL U =>
 (kr .not dL).wp K U (fun dZ U =>
 aw dZ (
 ak R (.aH [(.str w_),(.int .i64 3)]) U) (
 (aj (some (true,1)) v3 U).wp K U (fun dW U =>
 (dO (some [(0,1)]) (some [.ah]) none [(0,dW)]).wp K U (fun v28 U =>
 (iN K.P a2 [v28]).wp K U (fun ej U =>
 (aT ej 0).wp K U (fun v30 U =>
 (aT ej 1).wp K U (fun v31 U =>
 (ax .neq aS true v31 (.int .i64 0)).wp K U (fun fC U =>
 aw fC (
 ak R (.aH [(.str w_),v31]) U) (
 ak R (.aH [v30,(.int .i64 0)]) U)) (aa R)) (aa R)) (aa R)) (aa R)) (aa R)) (aa R))) (aa R)) (aa R))) (aa R)) (aa R)) (aa R)) (aa R))) (aa R)) (aa R))) (aa R)) (aa R)
def W5:Prop :=
 (eS a0).wp K U (fun v2 U =>
 (aj (some (true,1)) v2 U).wp K U (fun v5 U =>
 (aj aE a1 U).wp K U (fun v6 U =>
 ae K 64 [v5,v6] U (ag (fun v7 U =>
 (aT v7 0).wp K U (fun v8 U =>
 (aT v7 1).wp K U (fun v9 U =>
 ak R (.aH [v8,v9]) U) (aa R)) (aa R)) (aa R))) (aa R)) (aa R)) (aa R)
def Nv:Prop :=
 (eS a0).wp K U (fun v2 U =>
 (aD.cE [.str []]).wp K U (fun v4 U =>
 (aD.cE [.int .i64 0]).wp K U (fun v5 U =>
 (af (some 0) v2).wp K U (fun v11 U =>
 (af (some 0) v11).wp K U (fun v12 U =>
 (aj aE v12 U).wp K U (fun ck U =>
 (aL (some (43,6)) none ck a1).wp K U (fun bZ U =>
 (af (some 0) bZ).wp K U (fun cO U =>
 (aj aE cO U).wp K U (fun dv U =>
 (ax .neq aS true dv (.int .u8 1)).wp K U (fun cu U =>
 aw cu (
 (fun aq:St =>
 aB K (aj (some (true,1)) v2 aq) (fun da =>
 aB K (aD.enter 96 []) (fun v20 =>
 aB K (dO (some [(0,1),(1,1),(2,1)]) (some [.ah,.ah,.jE]) none [(0,da),(2,v20)]) (fun v21 =>
 (eS v21).wp K U (fun dL U=>cY ((eL v2++[])++[]) aq U /\
 ae K 123 [dL,a1] U (ag (fun eR U =>
 (aW dL).wp K U (fun dW U =>
 (af (some 1) dW).wp K U (fun v28 U =>
 (aj aE v28 U).wp K U (fun ej U =>
 ae K 124 [ej] U (ag (fun v30 U =>
 (aT v30 0).wp K U (fun v31 U =>
 (aT v30 1).wp K U (fun fI U =>
 (aF aE v4 v31 U).wp K U (fun _ U =>
 (aF aE v5 fI U).wp K U (fun _ U =>
 bq aE v4 U fun r0 =>
 bq aE v5 U fun r1 =>
 ak R (.aH [r0,r1]) U) (aa R)) (aa R)) (aa R)) (aa R)) (aa R))) (aa R)) (aa R)) (aa R)) (aa R))) (aa R))))) U) (
 (aD.new .box none (.tF 158 [.aY,.ah])).wp K U (fun v7 U =>
 (aj (some (true,1)) v2 U).wp K U (fun fC U =>
 ae K 81 [fC,a1] U (ag (fun hU U =>
 rG K 1 hU U (fun hX q U =>
 q.Dd (fun U =>
 (aj (some (true,1)) v2 U).wp K U (fun gH U =>
 ae K 64 [gH,hX] U (ag (fun v40 U =>
 (aT v40 0).wp K U (fun jv U =>
 (aT v40 1).wp K U (fun lO U =>
 (ax .neq aS true lO (.int .i64 0)).wp K U (fun nz U =>
 aw nz (
 (aF aE v4 (.str w_) U).wp K U (fun _ U =>
 (aF aE v5 lO U).wp K U (fun _ U =>
 q.r U) (fun _ _=>False)) (fun _ _=>False)) (
 (ax .add aS true jv (.str rO)).wp K U (fun nB U =>
 ae K 125 [v7,nB] U (ag (fun qY U =>
 q.n U) (fun _ _=>False))) (fun _ _=>False))) (fun _ _=>False)) (fun _ _=>False)) (fun _ _=>False)) (fun _ _=>False))) (fun _ _=>False)) U) (fun U =>
 ae K 126 [v7] U (ag (fun v49 U =>
 (ax .gtr aS true v49 (.int .i64 2500)).wp K U (fun jG U =>
 aw jG (
 (aF aE v4 (.str w_) U).wp K U (fun _ U =>
 (aF aE v5 (.int .i64 5) U).wp K U (fun _ U =>
 bq aE v4 U fun nW =>
 bq aE v5 U fun IY =>
 ak R (.aH [nW,IY]) U) (aa R)) (aa R)) (
 ae K 127 [v7] U (ag (fun v51 U =>
 (aF aE v4 v51 U).wp K U (fun _ U =>
 (aF aE v5 (.int .i64 0) U).wp K U (fun _ U =>
 bq aE v4 U fun qD =>
 bq aE v5 U fun IZ =>
 ak R (.aH [qD,IZ]) U) (aa R)) (aa R)) (aa R)))) (aa R)) (aa R))) (fun i U =>
 Ht (Nat.beq i 0) (
 ae K 126 [v7] U (ag (fun NL U =>
 (ax .gtr aS true NL (.int .i64 2500)).wp K U (fun AQ U =>
 aw AQ (
 (aF aE v4 (.str w_) U).wp K U (fun _ U =>
 (aF aE v5 (.int .i64 5) U).wp K U (fun _ U =>
 bq aE v4 U fun yd =>
 bq aE v5 U fun UI =>
 ak R (.aH [yd,UI]) U) (aa R)) (aa R)) (
 ae K 127 [v7] U (ag (fun aej U =>
 (aF aE v4 aej U).wp K U (fun _ U =>
 (aF aE v5 (.int .i64 0) U).wp K U (fun _ U =>
 bq aE v4 U fun IW =>
 bq aE v5 U fun afV =>
 ak R (.aH [IW,afV]) U) (aa R)) (aa R)) (aa R)))) (aa R)) (aa R))) (
 False)) (fun U =>
 bq aE v4 U fun IX =>
 bq aE v5 U fun afW =>
 ak R (.aH [IX,afW]) U) (fun x U=>(aa R) x U)) (aa R))) (aa R)) (aa R))) (aa R)) (aa R)) (aa R)) (aa R)) (aa R)) (aa R)) (aa R)) (aa R)) (aa R)) (aa R)
def W6:Prop :=
 (eS a0).wp K U (fun v1 U =>
 (fun aq:St =>
 aB K (af (some 0) v1) (fun v5 =>
 aB K (af (some 0) v5) (fun v6 =>
 aB K (aj aE v6 aq) (fun v7 =>
 aB K (cw (some false) v7) (fun v8 =>
 aB K (ax .eql aS true v8 (.int .i64 0)) (fun v9 =>
 ao K (aP v9 false) (af (some 0) v1) (fun v11 =>
 ao K (aP v9 false) (af (some 0) v11) (fun v12 =>
 ao K (aP v9 false) (aj aE v12 aq) (fun ck =>
 ao K (aP v9 false) (aL (some (43,6)) none ck (.int .i64 0)) (fun ct =>
 ao K (aP v9 false) (af (some 0) ct) (fun bZ =>
 ao K (aP v9 false) (aj aE bZ aq) (fun cO =>
 ao K (aP v9 false) (ax .neq aS true cO (.int .u8 1)) (fun dv =>
 aB K (bQ v9 (.bool true) dv) (fun cu =>
 ao K (aP cu false) (af (some 0) v1) (fun v20 =>
 ao K (aP cu false) (af (some 0) v20) (fun v21 =>
 ao K (aP cu false) (aj aE v21 aq) (fun dL =>
 ao K (aP cu false) (aL (some (43,6)) none dL (.int .i64 0)) (fun dZ =>
 ao K (aP cu false) (af (some 5) dZ) (fun v24 =>
 ao K (aP cu false) (aj aE v24 aq) (fun eR =>
 ao K (aP cu false) (af (some 0) v1) (fun fR =>
 ao K (aP cu false) (af (some 0) fR) (fun dW =>
 ao K (aP cu false) (aj aE dW aq) (fun v28 =>
 ao K (aP cu false) (cw (some false) v28) (fun ej =>
 ao K (aP cu false) (ax .neq aS false eR ej) (fun v30 =>
 aB K (bQ cu (.bool true) v30) (fun v31 =>
 aw v31 (
 ak R (.bool false) U) (
 ae K 130 [] U (ag (fun fI U =>
 (af (some 0) v1).wp K U (fun fC U =>
 (af (some 0) fC).wp K U (fun ic U =>
 (aj aE ic U).wp K U (fun hU U =>
 (cw (some false) hU).wp K U (fun hX U =>
 eW 4 [v1,fI,hX,(.int .i64 0)] U fun lp od v3 qo v37 U =>
 (ax .lss aS false v37 qo).wp K U (fun gH U =>
 aw gH (
 (aj (some (true,1)) od U).wp K U (fun v40 U =>
 ae K 131 [v40,v37,v3] U (ag (fun iW U =>
 (kr .not iW).wp K U (fun nz U =>
 aw nz (
 ak R (.bool false) U) (
 (ax .add aS true v37 (.int .i64 1)).wp K U (fun nA U =>
 lp od v3 qo nA U) (aa R))) (aa R)) (aa R))) (aa R)) (
 ak R (.bool true) U)) (aa R)) (aa R)) (aa R)) (aa R)) (aa R)) (aa R))))))))))))))))))))))))))))) U) (aa R)
def W7:Prop :=
 (eS a0).wp K U (fun v1 U =>
 (af (some 0) v1).wp K U (fun v7 U =>
 (aj aE v7 U).wp K U (fun v8 U =>
 (cw (some false) v8).wp K U (fun v9 U =>
 eW 6 [v1,(.bool false),.ah,v8,v9,(.int .i64 0)] U fun lp od v2 v3 pw lR v10 U =>
 (ax .lss aS false v10 lR).wp K U (fun v11 U =>
 aw v11 (
 (aL (some (43,6)) none pw v10).wp K U (fun ck U =>
 (aj (some (true,6)) ck U).wp K U (fun ct U =>
 (aD.cE [.int .i64 0]).wp K U (fun v4 U =>
 (aD.cE [.int .u8 0,.str [],.int .i64 0,.int .i64 0,.int .i64 0,.int .i64 0]).wp K U (fun v5 U =>
 (aF aE v4 v10 U).wp K U (fun _ U =>
 (aF (some (true,6)) v5 ct U).wp K U (fun _ U =>
 ae K 132 [v3,(.func (.func 133) [] [v4])] U (ag (fun dv U =>
 (cw (some false) dv).wp K U (fun da U =>
 (ax .gtr aS true da (.int .i64 60)).wp K U (fun v20 U =>
 aw v20 (
 ak R (.bool true) U) (
 (aj aE v4 U).wp K U (fun dL U =>
 (af (some 5) v5).wp K U (fun dZ U =>
 (aj aE dZ U).wp K U (fun v24 U =>
 (ax .add aS false dL v24).wp K U (fun eR U =>
 (ar (some (3,1)) (some [.int .i64 0]) 1 true [(0,eR)]).wp K U (fun fR U =>
 (eH (some (3,1)) true dv fR U).wp K U (fun dW U =>
 (ax .add aS true v10 (.int .i64 1)).wp K U (fun v28 U =>
 lp od v2 dW pw lR v28 U) (aa R)) (aa R)) (aa R)) (aa R)) (aa R)) (aa R)) (aa R))) (aa R)) (aa R)) (aa R))) (aa R)) (aa R)) (aa R)) (aa R)) (aa R)) (aa R)) (
 (aD.cE [.int .i64 0]).wp K U (fun v6 U =>
 (aF aE v6 (.int .i64 0) U).wp K U (fun _ U =>
 (aj (some (true,1)) od U).wp K U (fun ej U =>
 (dO (some [(0,1)]) (some [.ah]) none [(0,ej)]).wp K U (fun v30 U =>
 ae K 81 [v30,(.int .i64 0)] U (ag (fun v31 U =>
 rG K 1 v31 U (fun fI q U =>
 q.Dd (fun U =>
 (aj aE v6 U).wp K U (fun fC U =>
 (ax .add aS true fC (.int .i64 1)).wp K U (fun ic U =>
 (aF aE v6 ic U).wp K U (fun _ U =>
 q.n U) (fun _ _=>False)) (fun _ _=>False)) (fun _ _=>False)) U) (fun U =>
 (aj aE v6 U).wp K U (fun hU U =>
 (ax .gtr aS true hU (.int .i64 24)).wp K U (fun hX U =>
 ak R hX U) (aa R)) (aa R)) (fun i U =>
 Ht (Nat.beq i 2) (
 (aj aE v6 U).wp K U (fun DJ U =>
 (ax .gtr aS true DJ (.int .i64 24)).wp K U (fun qo U =>
 ak R qo U) (aa R)) (aa R)) (
 False)) (fun U =>
 ak R v2 U) (fun x U=>(aa R) x U)) (aa R))) (aa R)) (aa R)) (aa R)) (aa R))) (aa R)) (aa R)) (aa R)) (aa R)) (aa R)
def W8:Prop :=
 (cw (some true) a0).wp K U (fun v6 U =>
 (ax .gtr aS true v6 (.int .i64 2500)).wp K U (fun v7 U =>
 aw v7 (
 ak R (.aH [(.int .i64 0),(.int .i64 5)]) U) (
 (cw (some true) a0).wp K U (fun v9 U =>
 eW 3 [a0,v9,(.int .i64 0)] U fun lp v0 lR v10 U =>
 (ax .lss aS false v10 lR).wp K U (fun v11 U =>
 aw v11 (
 (iv true none none v0 v10).wp K U (fun bZ U =>
 ae K 146 [bZ] U (ag (fun cO U =>
 (kr .not cO).wp K U (fun dv U =>
 aw dv (
 ak R (.aH [v10,(.int .i64 2)]) U) (
 (ax .add aS true v10 (.int .i64 1)).wp K U (fun da U =>
 lp v0 lR da U) (aa R))) (aa R)) (aa R))) (aa R)) (
 ak R (.aH [(.int .i64 0),(.int .i64 0)]) U)) (aa R)) (aa R))) (aa R)) (aa R)
def W9 (a0 a1:AV) (R:cR->St->Prop) (U:St):Prop :=
 (aj aE a1 U).wp K U (fun v4 U =>
 (aj aE a1 U).wp K U (fun v5 U =>
 (cw (some false) v5).wp K U (fun v6 U =>
 (ax .sub aS true v6 (.int .i64 1)).wp K U (fun v7 U =>
 (aL (some (51,3)) none v4 v7).wp K U (fun v8 U =>
 (af (some 1) v8).wp K U (fun v9 U =>
 (aj aE v9 U).wp K U (fun v10 U =>
 (cw (some true) v10).wp K U (fun v11 U =>
 ak R v11 U) (aa R)) (aa R)) (aa R)) (aa R)) (aa R)) (aa R)) (aa R)) (aa R)
def Xa:Prop :=
 (eS a0).wp K U (fun v2 U =>
 (eS a1).wp K U (fun v3 U =>
 ak R (.func (.func 147) [] [v2,v3]) U) (aa R)) (aa R)
def Xb:Prop :=
 (aD.cE [.int .u8 0,.str [],.int .i64 0]).wp K U (fun v2 U =>
 ae K 149 [a0] U (ag (fun v7 U =>
 (fG true none a0 none (some v7)).wp K U (fun v8 U =>
 (ax .eql aS true v8 (.str w_)).wp K U (fun v11 U =>
 aw v11 (
 ae K 150 [a0] U (ag (fun ck U =>
 (aT ck 0).wp K U (fun ct U =>
 (aT ck 1).wp K U (fun bZ U =>
 (aF (some (true,3)) v2 ct U).wp K U (fun _ U =>
 bq (some (true,3)) v2 U fun r0 =>
 ak R (.aH [r0,bZ]) U) (aa R)) (aa R)) (aa R)) (aa R))) (
 (iv true none none v8 (.int .i64 0)).wp K U (fun cu U =>
 (ar (some (178,1)) (some [.int .i64 0]) 1 false [(0,(.int .i64 2))]).wp K U (fun da U =>
 ae K 151 [cu,da] U (ag (fun v20 U =>
 aw v20 (
 (dO (some [(0,1),(1,1),(2,1)]) (some [.int .u8 0,.str [],.int .i64 0]) none [(0,(.int .u8 2)),(1,v8)]).wp K U (fun dL U =>
 ae K 152 [v8] U (ag (fun v24 U =>
 (aF (some (true,3)) v2 dL U).wp K U (fun _ U =>
 bq (some (true,3)) v2 U fun nW =>
 ak R (.aH [nW,v24]) U) (aa R)) (aa R))) (aa R)) (
 (iv true none none v8 (.int .i64 0)).wp K U (fun dW U =>
 (ar (some (178,1)) (some [.int .i64 0]) 1 false [(0,(.int .i64 3))]).wp K U (fun v28 U =>
 ae K 151 [dW,v28] U (ag (fun ej U =>
 (kr .not ej).wp K U (fun v30 U =>
 aw v30 (
 (dO (some [(0,1),(1,1),(2,1)]) (some [.int .u8 0,.str [],.int .i64 0]) none []).wp K U (fun v31 U =>
 (aF (some (true,3)) v2 v31 U).wp K U (fun _ U =>
 bq (some (true,3)) v2 U fun qD =>
 ak R (.aH [qD,(.int .i64 4)]) U) (aa R)) (aa R)) (
 ae K 153 [] U (ag (fun fC U =>
 (et (some (.s,4)) (some (.bool false)) fC v8 false U).wp K U (fun hU U =>
 aw hU (
 (dO (some [(0,1),(1,1),(2,1)]) (some [.int .u8 0,.str [],.int .i64 0]) none [(0,(.int .u8 3)),(1,v8)]).wp K U (fun v37 U =>
 (aF (some (true,3)) v2 v37 U).wp K U (fun _ U =>
 bq (some (true,3)) v2 U fun yd =>
 ak R (.aH [yd,(.int .i64 0)]) U) (aa R)) (aa R)) (
 (cw (some true) v8).wp K U (fun v40 U =>
 (ax .gtr aS true v40 (.int .i64 12)).wp K U (fun jv U =>
 aw jv (
 (dO (some [(0,1),(1,1),(2,1)]) (some [.int .u8 0,.str [],.int .i64 0]) none []).wp K U (fun lO U =>
 (aF (some (true,3)) v2 lO U).wp K U (fun _ U =>
 bq (some (true,3)) v2 U fun IW =>
 ak R (.aH [IW,(.int .i64 4)]) U) (aa R)) (aa R)) (
 (dO (some [(0,1),(1,1),(2,1)]) (some [.int .u8 0,.str [],.int .i64 0]) none [(0,(.int .u8 1)),(1,v8)]).wp K U (fun nz U =>
 (aF (some (true,3)) v2 nz U).wp K U (fun _ U =>
 bq (some (true,3)) v2 U fun IX =>
 ak R (.aH [IX,(.int .i64 0)]) U) (aa R)) (aa R))) (aa R)) (aa R))) (aa R)) (aa R)))) (aa R)) (aa R))) (aa R)) (aa R))) (aa R))) (aa R)) (aa R))) (aa R)) (aa R)) (aa R))) (aa R)
def Xc:Prop :=
 (eS a0).wp K U (fun v2 U =>
 (eS a1).wp K U (fun v3 U =>
 (fun aq:St =>
 aB K (aj aE v3 aq) (fun v6 =>
 aB K (af (some 0) v2) (fun v7 =>
 aB K (af (some 0) v7) (fun v8 =>
 aB K (aj aE v8 aq) (fun v9 =>
 aB K (aj aE v3 aq) (fun v10 =>
 aB K (aL (some (43,6)) none v9 v10) (fun v11 =>
 aB K (af (some 5) v11) (fun v12 =>
 aB K (aj aE v12 aq) (fun ck =>
 aB K (ax .add aS false v6 ck) (fun ct =>
 (aD.cE [.int .i64 0]).wp K U (fun v5 U=>cY ((eL v12++[])++((eL v3++[])++((eL v8++[])++((eL v3++[])++[])))) aq U /\
 (aF aE v5 ct U).wp K U (fun _ U =>
 ak R (.func (.func 155) [] [v3,v5,v2]) U) (aa R)) (aa R))))))))))) U) (aa R)) (aa R)
def Xd:Prop :=
 (eS a0).wp K U (fun v3 U =>
 (aD.cE [.ah]).wp K U (fun v6 U =>
 (aj (some (true,1)) v3 U).wp K U (fun v9 U =>
 ae K 30 [v9] U (ag (fun v10 U =>
 (ax .neq aS true v10 (.int .i64 0)).wp K U (fun ck U =>
 aw ck (
 (aj (some (true,1)) v6 U).wp K U (fun ct U =>
 (aF (some (true,1)) v6 ct U).wp K U (fun _ U =>
 bq (some (true,1)) v6 U fun r0 =>
 ak R (.aH [r0,v10]) U) (aa R)) (aa R)) (
 (af (some 0) v3).wp K U (fun dv U =>
 (aj aE dv U).wp K U (fun cu U =>
 (cw (some false) cu).wp K U (fun da U =>
 (ax .sub aS true da (.int .i64 1)).wp K U (fun v20 U =>
 ae K 122 [(.int .i64 0),v20,a1] U (ag (fun dL U =>
 (kr .not dL).wp K U (fun dZ U =>
 aw dZ (
 (aj (some (true,1)) v6 U).wp K U (fun v24 U =>
 (aF (some (true,1)) v6 v24 U).wp K U (fun _ U =>
 bq (some (true,1)) v6 U fun nW =>
 ak R (.aH [nW,(.int .i64 3)]) U) (aa R)) (aa R)) (
 (aj (some (true,1)) v3 U).wp K U (fun dW U =>
 (dO (some [(0,1)]) (some [.ah]) none [(0,dW)]).wp K U (fun v28 U =>
 (iN K.P a2 [v28]).wp K U (fun ej U =>
 (aT ej 0).wp K U (fun v30 U =>
 (aT ej 1).wp K U (fun v31 U =>
 (aF (some (true,1)) v6 v30 U).wp K U (fun _ U =>
 (ax .neq aS true v31 (.int .i64 0)).wp K U (fun fC U =>
 aw fC (
 (aD.cE [.ah]).wp K U (fun v8 U =>
 (aj (some (true,1)) v8 U).wp K U (fun ic U =>
 (aF (some (true,1)) v6 ic U).wp K U (fun _ U =>
 bq (some (true,1)) v6 U fun qD =>
 ak R (.aH [qD,v31]) U) (aa R)) (aa R)) (aa R)) (
 (aj (some (true,1)) v6 U).wp K U (fun hX U =>
 (aF (some (true,1)) v6 hX U).wp K U (fun _ U =>
 bq (some (true,1)) v6 U fun yd =>
 ak R (.aH [yd,(.int .i64 0)]) U) (aa R)) (aa R))) (aa R)) (aa R)) (aa R)) (aa R)) (aa R)) (aa R)) (aa R))) (aa R)) (aa R))) (aa R)) (aa R)) (aa R)) (aa R))) (aa R)) (aa R))) (aa R)) (aa R)) (aa R)
def Xe:Prop :=
 (eS a0).wp K U (fun v1 U =>
 (aD.cE [.ah]).wp K U (fun v2 U =>
 (af (some 0) v1).wp K U (fun v6 U =>
 (af (some 0) v6).wp K U (fun v7 U =>
 (aj aE v7 U).wp K U (fun v8 U =>
 ae K 89 [v8] U (ag (fun v9 U =>
 (dO (some [(0,1)]) (some [.ah]) none [(0,v9)]).wp K U (fun v10 U =>
 (aD.cE [.ah]).wp K U (fun v4 U =>
 (aF (some (true,1)) v4 v10 U).wp K U (fun _ U =>
 (af (some 0) v4).wp K U (fun v11 U =>
 (aj aE v11 U).wp K U (fun v12 U =>
 (cw (some false) v12).wp K U (fun ck U =>
 eW 4 [v2,v4,ck,(.int .i64 0)] U fun lp jC nC rM ct U =>
 (ax .lss aS false ct rM).wp K U (fun bZ U =>
 aw bZ (
 (af (some 0) nC).wp K U (fun dv U =>
 (aj aE dv U).wp K U (fun cu U =>
 (aL (some (43,6)) none cu ct).wp K U (fun v20 U =>
 (af (some 4) v20).wp K U (fun v21 U =>
 (aF aE v21 (.int .i64 0) U).wp K U (fun _ U =>
 (ax .add aS true ct (.int .i64 1)).wp K U (fun dL U =>
 lp jC nC rM dL U) (aa R)) (aa R)) (aa R)) (aa R)) (aa R)) (aa R)) (
 (aj (some (true,1)) nC U).wp K U (fun dZ U =>
 (aF (some (true,1)) jC dZ U).wp K U (fun _ U =>
 bq (some (true,1)) jC U fun r0 =>
 ak R (.aH [r0,(.int .i64 0)]) U) (aa R)) (aa R))) (aa R)) (aa R)) (aa R)) (aa R)) (aa R)) (aa R)) (aa R)) (aa R))) (aa R)) (aa R)) (aa R)) (aa R)) (aa R)
def Xf:Prop :=
 (ax .eql (BT.mk false false false none true) true a0 .ah).wp K U (fun v4 U =>
 aw v4 (
 ak R .ah U) (
 (ar (some (43,6)) (some [.int .u8 0,.str [],.int .i64 0,.int .i64 0,.int .i64 0,.int .i64 0]) 0 true []).wp K U (fun v5 U =>
 (eH (some (43,6)) true v5 a0 U).wp K U (fun v7 U =>
 ak R v7 U) (aa R)) (aa R))) (aa R)
def Xg:Prop :=
 (cw (some false) a0).wp K U (fun v6 U =>
 (ax .gtr aS true v6 (.int .i64 900)).wp K U (fun v7 U =>
 aw v7 (
 ak R (.int .i64 5) U) (
 (cw (some false) a0).wp K U (fun v9 U =>
 eW 3 [a0,v9,(.int .i64 0)] U fun lp v8 lR v10 U =>
 (ax .lss aS false v10 lR).wp K U (fun v11 U =>
 aw v11 (
 (aL (some (51,3)) none v8 v10).wp K U (fun v12 U =>
 (aj (some (true,3)) v12 U).wp K U (fun ck U =>
 (aD.cE [.int .u8 0,.str [],.int .i64 0]).wp K U (fun v4 U =>
 (aF (some (true,3)) v4 ck U).wp K U (fun _ U =>
 (aj (some (true,3)) v4 U).wp K U (fun ct U =>
 ae K 156 [ct] U (ag (fun bZ U =>
 (kr .not bZ).wp K U (fun cO U =>
 aw cO (
 ak R (.int .i64 2) U) (
 (ax .add aS true v10 (.int .i64 1)).wp K U (fun dv U =>
 lp v8 lR dv U) (aa R))) (aa R)) (aa R))) (aa R)) (aa R)) (aa R)) (aa R)) (aa R)) (
 ak R (.int .i64 0) U)) (aa R)) (aa R))) (aa R)) (aa R)
def ad5:Prop :=
 ae K 164 [a0] U (ag (fun v7 U =>
 (dO (some [(0,1),(1,1),(2,1),(3,1),(4,1),(5,1)]) (some [.int .u8 0,.str [],.int .i64 0,.int .i64 0,.int .i64 0,.int .i64 0]) none [(0,a1),(4,v7)]).wp K U (fun v8 U =>
 (dO (some [(0,6),(6,1)]) (some [.int .u8 0,.str [],.int .i64 0,.int .i64 0,.int .i64 0,.int .i64 0,.ah]) none [(0,v8)]).wp K U (fun v9 U =>
 (eS v9).wp K U (fun v10 U =>
 ak R v10 U) (aa R)) (aa R)) (aa R)) (aa R))
def Qm:Prop :=
 (ar (some (9,1)) (some [.str []]) 1 false [(0,a1)]).wp K U (fun v7 U =>
 ae K 105 [a0,v7] U (ag (fun v8 U =>
 (kr .not v8).wp K U (fun v9 U =>
 aw v9 (
 ak R (.bool false) U) (
 (aW a0).wp K U (fun v11 U =>
 (af (some 1) v11).wp K U (fun v12 U =>
 (aj aE v12 U).wp K U (fun ck U =>
 (ax .add aS true ck (.int .i64 1)).wp K U (fun ct U =>
 (aW a0).wp K U (fun bZ U =>
 (af (some 1) bZ).wp K U (fun cO U =>
 (aF aE cO ct U).wp K U (fun _ U =>
 ak R (.bool true) U) (aa R)) (aa R)) (aa R)) (aa R)) (aa R)) (aa R)) (aa R))) (aa R)) (aa R))) (aa R)
def abE:Prop :=
 ae K 165 [a0,(.int .u8 1)] U (ag (fun v4 U =>
 ak R v4 U) (aa R))
def abF:Prop :=
 ae K 100 [a0,a1] U (ag (fun v6 U =>
 (kr .not v6).wp K U (fun v7 U =>
 aw v7 (
 ae K 166 [a0] U (ag (fun v9 U =>
 ak R (.aH []) U) (aa R))) (
 ak R (.aH []) U)) (aa R)) (aa R))
def Qq:Prop :=
 (aW a0).wp K U (fun v7 U =>
 (af (some 6) v7).wp K U (fun v8 U =>
 (aj aE v8 U).wp K U (fun v9 U =>
 (eH (some (87,1)) false v9 a1 U).wp K U (fun v11 U =>
 (aW a0).wp K U (fun v12 U =>
 (af (some 6) v12).wp K U (fun ck U =>
 (aF aE ck v11 U).wp K U (fun _ U =>
 ak R a0 U) (aa R)) (aa R)) (aa R)) (aa R)) (aa R)) (aa R)) (aa R)
def Qt:Prop :=
 (ar (some (9,1)) (some [.str []]) 1 false [(0,(.str cP))]).wp K U (fun v5 U =>
 ae K 105 [a0,v5] U (ag (fun v6 U =>
 (kr .not v6).wp K U (fun v7 U =>
 aw v7 (
 ae K 108 [a0] U (ag (fun v9 U =>
 ak R v9 U) (aa R))) (
 ae K 99 [a0,(.int .u8 8)] U (ag (fun v11 U =>
 ae K 102 [a0,(.str cP)] U (ag (fun ck U =>
 ae K 106 [a0,v11,(.func (.func 108) [a0] [])] U (ag (fun cu U =>
 ae K 102 [a0,(.str cC)] U (ag (fun v20 U =>
 ae K 102 [a0,(.str fO)] U (ag (fun dL U =>
 ae K 108 [a0] U (ag (fun eR U =>
 (ar (some (87,1)) (some [.aY]) 1 false [(0,eR)]).wp K U (fun fR U =>
 ae K 103 [v11,fR] U (ag (fun dW U =>
 ak R dW U) (aa R))) (aa R)) (aa R))) (aa R))) (aa R))) (aa R))) (aa R))) (aa R)))) (aa R)) (aa R))) (aa R)
def abG:Prop :=
 ae K 167 [a0,(.int .i64 0)] U (ag (fun v6 U =>
 ae K 121 [v6,a1] U (ag (fun v8 U =>
 ak R v8 U) (aa R))) (aa R))
def Ja:Prop :=
 (iN K.P a2 []).wp K U (fun v8 U =>
 (ar (some (87,1)) (some [.aY]) 1 false [(0,v8)]).wp K U (fun v9 U =>
 ae K 103 [a1,v9] U (ag (fun v10 U =>
 eW 3 [a0,a1,a2] U fun lp v0 v1 v2 U =>
 ae K 100 [v0,(.str cV)] U (ag (fun v12 U =>
 aw v12 (
 (iN K.P v2 []).wp K U (fun bZ U =>
 (ar (some (87,1)) (some [.aY]) 1 false [(0,bZ)]).wp K U (fun cO U =>
 ae K 103 [v1,cO] U (ag (fun dv U =>
 lp v0 v1 v2 U) (aa R))) (aa R)) (aa R)) (
 ak R (.aH []) U)) (aa R))) (aa R))) (aa R)) (aa R)
def Qw:Prop :=
 ae K 99 [a0,(.int .u8 5)] U (ag (fun v5 U =>
 ae K 101 [a0] U (ag (fun v8 U =>
 (aW v5).wp K U (fun v9 U =>
 (af (some 0) v9).wp K U (fun v10 U =>
 (af (some 1) v10).wp K U (fun v11 U =>
 (aF aE v11 v8 U).wp K U (fun _ U =>
 ae K 102 [a0,(.str ez)] U (ag (fun ck U =>
 ae K 104 [a0] U (ag (fun cO U =>
 (ar (some (87,1)) (some [.aY]) 1 false [(0,cO)]).wp K U (fun dv U =>
 ae K 103 [v5,dv] U (ag (fun cu U =>
 ak R cu U) (aa R))) (aa R)) (aa R))) (aa R))) (aa R)) (aa R)) (aa R)) (aa R)) (aa R))) (aa R))
def Qz:Prop :=
 ae K 99 [a0,(.int .u8 6)] U (ag (fun v5 U =>
 jR 1 (fun v3 U =>
 ak R v3 U) fun j =>
 ae K 100 [a0,(.str sO)] U (ag (fun cO U =>
 aw cO (
 (aW v5).wp K U (fun cu U =>
 (af (some 0) cu).wp K U (fun da U =>
 (af (some 2) da).wp K U (fun v20 U =>
 (aF aE v20 (.int .i64 1) U).wp K U (fun _ U =>
 j v5 U) (aa R)) (aa R)) (aa R)) (aa R)) (
 ae K 100 [a0,(.str ow)] U (ag (fun dZ U =>
 aw dZ (
 (aW v5).wp K U (fun eR U =>
 (af (some 0) eR).wp K U (fun fR U =>
 (af (some 2) fR).wp K U (fun dW U =>
 (aF aE dW (.int .i64 2) U).wp K U (fun _ U =>
 j v5 U) (aa R)) (aa R)) (aa R)) (aa R)) (
 ae K 100 [a0,(.str jH)] U (ag (fun v30 U =>
 aw v30 (
 ae K 168 [a0] U (ag (fun ic U =>
 (aW v5).wp K U (fun hU U =>
 (af (some 0) hU).wp K U (fun hX U =>
 (af (some 0) hX).wp K U (fun v37 U =>
 (aF aE v37 (.int .u8 7) U).wp K U (fun _ U =>
 (aW v5).wp K U (fun gH U =>
 (af (some 0) gH).wp K U (fun lN U =>
 (af (some 2) lN).wp K U (fun v40 U =>
 (aF aE v40 ic U).wp K U (fun _ U =>
 j v5 U) (aa R)) (aa R)) (aa R)) (aa R)) (aa R)) (aa R)) (aa R)) (aa R)) (aa R))) (
 ae K 102 [a0,(.str ku)] U (ag (fun v7 U =>
 ae K 168 [a0] U (ag (fun v10 U =>
 (aW v5).wp K U (fun v11 U =>
 (af (some 0) v11).wp K U (fun v12 U =>
 (af (some 2) v12).wp K U (fun ck U =>
 (aF aE ck v10 U).wp K U (fun _ U =>
 j v5 U) (aa R)) (aa R)) (aa R)) (aa R)) (aa R))) (aa R)))) (aa R)))) (aa R)))) (aa R))) (aa R))
def QB:Prop :=
 ae K 169 [a0] U (ag (fun v7 U =>
 ae K 99 [a0,(.int .u8 9)] U (ag (fun v9 U =>
 (ar (some (87,1)) (some [.aY]) 1 false [(0,v7)]).wp K U (fun v12 U =>
 ae K 103 [v9,v12] U (ag (fun ck U =>
 jR 2 (fun v3 v4 U =>
 (aW v4).wp K U (fun ic U =>
 (af (some 6) ic).wp K U (fun hU U =>
 (aj aE hU U).wp K U (fun hX U =>
 (cw (some false) hX).wp K U (fun v37 U =>
 (ax .eql aS true v37 (.int .i64 1)).wp K U (fun gH U =>
 aw gH (
 ak R v3 U) (
 ak R v4 U)) (aa R)) (aa R)) (aa R)) (aa R)) (aa R)) fun j =>
 eW 3 [a0,v7,v9] U fun lp v0 yn nC U =>
 (ar (some (9,1)) (some [.str []]) 1 false [(0,(.str cH))]).wp K U (fun bZ U =>
 ae K 105 [v0,bZ] U (ag (fun cO U =>
 aw cO (
 ae K 167 [v0,(.int .i64 1)] U (ag (fun cu U =>
 (aD.cE [.int .u8 0,.str [],.int .i64 0]).wp K U (fun v5 U =>
 (aF (some (true,3)) v5 cu U).wp K U (fun _ U =>
 (af (some 0) v5).wp K U (fun da U =>
 (aj aE da U).wp K U (fun v20 U =>
 (ax .eql aS true v20 (.int .u8 0)).wp K U (fun v21 U =>
 ao K (aP v21 false) (aj (some (true,3)) v5 U) (fun dZ =>
 ao K (aP v21 false) (aD.enter 61 [dZ]) (fun v24 =>
 (bQ v21 (.bool true) v24).wp K U (fun eR U =>
 aw eR (
 j yn nC U) (
 ae K 102 [v0,(.str cH)] U (ag (fun dW U =>
 ae K 169 [v0] U (ag (fun v30 U =>
 (ar (some (87,1)) (some [.aY]) 1 false [(0,v30)]).wp K U (fun v31 U =>
 ae K 103 [nC,v31] U (ag (fun fI U =>
 lp v0 yn nC U) (aa R))) (aa R)) (aa R))) (aa R)))) (aa R)))) (aa R)) (aa R)) (aa R)) (aa R)) (aa R)) (aa R))) (
 j yn nC U)) (aa R))) (aa R)) (aa R))) (aa R)) (aa R))) (aa R))
def QD:Prop :=
 (aW a0).wp K U (fun v7 U =>
 (af (some 0) v7).wp K U (fun v8 U =>
 (aj (some (true,6)) v8 U).wp K U (fun v9 U =>
 (ar (some (43,6)) (some [.int .u8 0,.str [],.int .i64 0,.int .i64 0,.int .i64 0,.int .i64 0]) 1 true [(0,v9)]).wp K U (fun v10 U =>
 (aW a0).wp K U (fun v12 U =>
 (af (some 6) v12).wp K U (fun ck U =>
 (aj aE ck U).wp K U (fun ct U =>
 (cw (some false) ct).wp K U (fun bZ U =>
 eW 4 [v10,ct,bZ,(.int .i64 0)] U fun lp v3 rN ym cO U =>
 (ax .lss aS false cO ym).wp K U (fun dv U =>
 aw dv (
 (aL (some (87,1)) none rN cO).wp K U (fun cu U =>
 (aj aE cu U).wp K U (fun da U =>
 ae K 110 [da] U (ag (fun dL U =>
 (eH (some (43,6)) true v3 dL U).wp K U (fun dZ U =>
 (ax .add aS true cO (.int .i64 1)).wp K U (fun v24 U =>
 lp dZ rN ym v24 U) (aa R)) (aa R)) (aa R))) (aa R)) (aa R)) (
 (cw (some false) v3).wp K U (fun dW U =>
 (aL (some (43,6)) none v3 (.int .i64 0)).wp K U (fun v28 U =>
 (af (some 5) v28).wp K U (fun ej U =>
 (aF aE ej dW U).wp K U (fun _ U =>
 ak R v3 U) (aa R)) (aa R)) (aa R)) (aa R))) (aa R)) (aa R)) (aa R)) (aa R)) (aa R)) (aa R)) (aa R)) (aa R)) (aa R)
def QF:Prop :=
 (eS a0).wp K U (fun v2 U =>
 (af (some 0) v2).wp K U (fun v5 U =>
 (aj aE v5 U).wp K U (fun v6 U =>
 (ax .eql aS true v6 (.int .u8 3)).wp K U (fun v7 U =>
 ao K (aP v7 false) (af (some 0) v2) (fun v9 =>
 ao K (aP v7 false) (aj aE v9 U) (fun v10 =>
 ao K (aP v7 false) (ax .eql aS true v10 (.int .u8 4)) (fun v11 =>
 (bQ v7 (.bool true) v11).wp K U (fun v12 U =>
 ao K (aP v12 true) (aD.val a1) (fun ct =>
 ao K (aP v12 true) (af (some 1) v2) (fun bZ =>
 ao K (aP v12 true) (aj aE bZ U) (fun cO =>
 ao K (aP v12 true) (aD.enter 178 [ct,cO]) (fun dv =>
 (bQ v12 dv (.bool false)).wp K U (fun cu U =>
 ak R cu U) (aa R)))))) (aa R))))) (aa R)) (aa R)) (aa R)) (aa R)
def QH:Prop :=
 (ax .geq aS false a2 a0).wp K U (fun v9 U =>
 ao K (aP v9 true) (aD.val a2) (fun v11 =>
 ao K (aP v9 true) (aD.val a1) (fun v12 =>
 ao K (aP v9 true) (ax .leq aS false v11 v12) (fun ck =>
 (bQ v9 ck (.bool false)).wp K U (fun ct U =>
 ak R ct U) (aa R))))) (aa R)
def QJ:Prop :=
 (aW a0).wp K U (fun v8 U =>
 (af (some 0) v8).wp K U (fun v9 U =>
 (af (some 0) v9).wp K U (fun v10 U =>
 (af (some 0) v10).wp K U (fun v11 U =>
 (aj aE v11 U).wp K U (fun v12 U =>
 (aL (some (43,6)) none v12 a1).wp K U (fun ct U =>
 (aj (some (true,6)) ct U).wp K U (fun bZ U =>
 (aD.cE [.int .u8 0,.str [],.int .i64 0,.int .i64 0,.int .i64 0,.int .i64 0]).wp K U (fun v4 U =>
 (aF (some (true,6)) v4 bZ U).wp K U (fun _ U =>
 (aD.cE [.ah]).wp K U (fun v5 U =>
 (aW a0).wp K U (fun dv U =>
 (af (some 0) dv).wp K U (fun cu U =>
 (aj (some (true,1)) cu U).wp K U (fun da U =>
 ae K 81 [da,a1] U (ag (fun v21 U =>
 rG K 1 v21 U (fun dL q U =>
 q.Dd (fun U =>
 (aj aE v5 U).wp K U (fun dZ U =>
 (ar (some (3,1)) (some [.int .i64 0]) 1 false [(0,dL)]).wp K U (fun eR U =>
 (eH (some (3,1)) false dZ eR U).wp K U (fun fR U =>
 (aF aE v5 fR U).wp K U (fun _ U =>
 q.n U) (fun _ _=>False)) (fun _ _=>False)) (fun _ _=>False)) (fun _ _=>False)) U) (fun U =>
 (af (some 0) v4).wp K U (fun fI U =>
 (aj aE fI U).wp K U (fun fC U =>
 ae K 179 [fC] U (ag (fun ic U =>
 aw ic (
 (aj (some (true,6)) v4 U).wp K U (fun hX U =>
 (aj aE v5 U).wp K U (fun v37 U =>
 ae K 180 [a0,hX,v37] U (ag (fun gH U =>
 ak R (.aH []) U) (aa R))) (aa R)) (aa R)) (
 (af (some 0) v4).wp K U (fun v40 U =>
 (aj aE v40 U).wp K U (fun jv U =>
 ae K 181 [jv] U (ag (fun lO U =>
 aw lO (
 (aj (some (true,6)) v4 U).wp K U (fun nz U =>
 (aj aE v5 U).wp K U (fun nA U =>
 ae K 182 [a0,nz,nA] U (ag (fun v46 U =>
 ak R (.aH []) U) (aa R))) (aa R)) (aa R)) (
 (af (some 0) v4).wp K U (fun qY U =>
 (aj aE qY U).wp K U (fun v49 U =>
 (ax .geq aS true v49 (.int .u8 17)).wp K U (fun jG U =>
 ao K (aP jG true) (af (some 0) v4) (fun o0 =>
 ao K (aP jG true) (aj aE o0 U) (fun v53 =>
 ao K (aP jG true) (ax .leq aS true v53 (.int .u8 25)) (fun mJ =>
 (bQ jG mJ (.bool false)).wp K U (fun nD U =>
 aw nD (
 (aj (some (true,6)) v4 U).wp K U (fun qZ U =>
 (aj aE v5 U).wp K U (fun o4 U =>
 ae K 183 [a0,qZ,o4] U (ag (fun v59 U =>
 ak R (.aH []) U) (aa R))) (aa R)) (aa R)) (
 (af (some 0) v4).wp K U (fun nK U =>
 (aj aE nK U).wp K U (fun xd U =>
 (ax .geq aS true xd (.int .u8 9)).wp K U (fun pN U =>
 ao K (aP pN true) (af (some 0) v4) (fun rY =>
 ao K (aP pN true) (aj aE rY U) (fun vr =>
 ao K (aP pN true) (ax .leq aS true vr (.int .u8 16)) (fun tG =>
 (bQ pN tG (.bool false)).wp K U (fun xe U =>
 aw xe (
 (aj (some (true,6)) v4 U).wp K U (fun v70 U =>
 (aj aE v5 U).wp K U (fun Jy U =>
 ae K 184 [a0,v70,Jy] U (ag (fun v72 U =>
 ak R (.aH []) U) (aa R))) (aa R)) (aa R)) (
 (af (some 0) v4).wp K U (fun uL U =>
 (aj aE uL U).wp K U (fun v75 U =>
 ae K 185 [v75] U (ag (fun v76 U =>
 aw v76 (
 (aj (some (true,6)) v4 U).wp K U (fun Gj U =>
 (aj aE v5 U).wp K U (fun LI U =>
 ae K 186 [a0,Gj,LI] U (ag (fun v80 U =>
 ak R (.aH []) U) (aa R))) (aa R)) (aa R)) (
 (aj (some (true,6)) v4 U).wp K U (fun v28 U =>
 (aj aE v5 U).wp K U (fun ej U =>
 ae K 187 [a0,v28,ej] U (ag (fun v30 U =>
 ak R (.aH []) U) (aa R))) (aa R)) (aa R))) (aa R))) (aa R)) (aa R))) (aa R))))) (aa R)) (aa R)) (aa R))) (aa R))))) (aa R)) (aa R)) (aa R))) (aa R))) (aa R)) (aa R))) (aa R))) (aa R)) (aa R)) (fun i U =>
 Ht (Nat.beq i 0) (
 (af (some 0) v4).wp K U (fun aea U =>
 (aj aE aea U).wp K U (fun aeb U =>
 ae K 179 [aeb] U (ag (fun DI U =>
 aw DI (
 (aj (some (true,6)) v4 U).wp K U (fun qo U =>
 (aj aE v5 U).wp K U (fun aed U =>
 ae K 180 [a0,qo,aed] U (ag (fun agJ U =>
 ak R (.aH []) U) (aa R))) (aa R)) (aa R)) (
 (af (some 0) v4).wp K U (fun aee U =>
 (aj aE aee U).wp K U (fun aef U =>
 ae K 181 [aef] U (ag (fun AP U =>
 aw AP (
 (aj (some (true,6)) v4 U).wp K U (fun aeg U =>
 (aj aE v5 U).wp K U (fun aeh U =>
 ae K 182 [a0,aeg,aeh] U (ag (fun agK U =>
 ak R (.aH []) U) (aa R))) (aa R)) (aa R)) (
 (af (some 0) v4).wp K U (fun aei U =>
 (aj aE aei U).wp K U (fun NL U =>
 (ax .geq aS true NL (.int .u8 17)).wp K U (fun AQ U =>
 ao K (aP AQ true) (af (some 0) v4) (fun NN =>
 ao K (aP AQ true) (aj aE NN U) (fun ael =>
 ao K (aP AQ true) (ax .leq aS true ael (.int .u8 25)) (fun NO =>
 (bQ AQ NO (.bool false)).wp K U (fun aem U =>
 aw aem (
 (aj (some (true,6)) v4 U).wp K U (fun aen U =>
 (aj aE v5 U).wp K U (fun aeo U =>
 ae K 183 [a0,aen,aeo] U (ag (fun agL U =>
 ak R (.aH []) U) (aa R))) (aa R)) (aa R)) (
 (af (some 0) v4).wp K U (fun aep U =>
 (aj aE aep U).wp K U (fun aeq U =>
 (ax .geq aS true aeq (.int .u8 9)).wp K U (fun GQ U =>
 ao K (aP GQ true) (af (some 0) v4) (fun aer =>
 ao K (aP GQ true) (aj aE aer U) (fun aes =>
 ao K (aP GQ true) (ax .leq aS true aes (.int .u8 16)) (fun aet =>
 (bQ GQ aet (.bool false)).wp K U (fun aeu U =>
 aw aeu (
 (aj (some (true,6)) v4 U).wp K U (fun aev U =>
 (aj aE v5 U).wp K U (fun aew U =>
 ae K 184 [a0,aev,aew] U (ag (fun agM U =>
 ak R (.aH []) U) (aa R))) (aa R)) (aa R)) (
 (af (some 0) v4).wp K U (fun aex U =>
 (aj aE aex U).wp K U (fun aey U =>
 ae K 185 [aey] U (ag (fun aez U =>
 aw aez (
 (aj (some (true,6)) v4 U).wp K U (fun aeA U =>
 (aj aE v5 U).wp K U (fun aeB U =>
 ae K 186 [a0,aeA,aeB] U (ag (fun agN U =>
 ak R (.aH []) U) (aa R))) (aa R)) (aa R)) (
 (aj (some (true,6)) v4 U).wp K U (fun ad8 U =>
 (aj aE v5 U).wp K U (fun ad9 U =>
 ae K 187 [a0,ad8,ad9] U (ag (fun agI U =>
 ak R (.aH []) U) (aa R))) (aa R)) (aa R))) (aa R))) (aa R)) (aa R))) (aa R))))) (aa R)) (aa R)) (aa R))) (aa R))))) (aa R)) (aa R)) (aa R))) (aa R))) (aa R)) (aa R))) (aa R))) (aa R)) (aa R)) (
 False)) (fun U =>
 ak R (.aH []) U) (fun x U=>(aa R) x U)) (aa R))) (aa R)) (aa R)) (aa R)) (aa R)) (aa R)) (aa R)) (aa R)) (aa R)) (aa R)) (aa R)) (aa R)) (aa R)) (aa R)
def QL:Prop :=
 ae K 93 [a0] U (ag (fun v9 U =>
 (ax .neq aS true v9 (.int .i64 0)).wp K U (fun v11 U =>
 aw v11 (
 ak R (.aH [(.str w_),v9]) U) (
 (aD.new .box none (.tF 158 [.aY,.ah])).wp K U (fun v5 U =>
 (cw (some false) a0).wp K U (fun ct U =>
 eW 5 [a0,v5,a0,ct,(.int .i64 0)] U fun lp v0 yo ck rN bZ U =>
 (ax .lss aS false bZ rN).wp K U (fun cO U =>
 aw cO (
 (aL (some (51,3)) none ck bZ).wp K U (fun cu U =>
 (aj (some (true,3)) cu U).wp K U (fun da U =>
 (aD.cE [.int .u8 0,.str [],.int .i64 0]).wp K U (fun v7 U =>
 (aF (some (true,3)) v7 da U).wp K U (fun _ U =>
 jR 6 (fun iy aci lD rM ad7 ym U =>
 (af (some 1) lD).wp K U (fun fI U =>
 (aj aE fI U).wp K U (fun fC U =>
 ae K 125 [aci,fC] U (ag (fun ic U =>
 (ax .add aS true ym (.int .i64 1)).wp K U (fun hU U =>
 lp iy aci rM ad7 hU U) (aa R)) (aa R))) (aa R)) (aa R)) fun j =>
 (fun aq:St =>
 aB K (ax .gtr aS true bZ (.int .i64 0)) (fun v21 =>
 ao K (aP v21 true) (aD.val v0) (fun dZ =>
 ao K (aP v21 true) (aD.val bZ) (fun v24 =>
 ao K (aP v21 true) (ax .sub aS true v24 (.int .i64 1)) (fun eR =>
 ao K (aP v21 true) (aL (some (51,3)) none dZ eR) (fun fR =>
 ao K (aP v21 true) (aj (some (true,3)) fR aq) (fun dW =>
 ao K (aP v21 true) (aj (some (true,3)) v7 aq) (fun v28 =>
 ao K (aP v21 true) (aD.enter 188 [dW,v28]) (fun ej =>
 aB K (bQ v21 ej (.bool false)) (fun v30 =>
 aw v30 (
 ae K 189 [yo,(.int .u8 32)] U (ag (fun v31 U =>
 j v0 yo v7 ck rN bZ U) (aa R))) (
 j v0 yo v7 ck rN bZ U))))))))))) U) (aa R)) (aa R)) (aa R)) (aa R)) (
 ae K 126 [yo] U (ag (fun hX U =>
 (ax .gtr aS true hX (.int .i64 2500)).wp K U (fun v37 U =>
 aw v37 (
 ak R (.aH [(.str w_),(.int .i64 5)]) U) (
 ae K 127 [yo] U (ag (fun gH U =>
 ak R (.aH [gH,(.int .i64 0)]) U) (aa R)))) (aa R)) (aa R)))) (aa R)) (aa R)) (aa R))) (aa R)) (aa R))
def QN:Prop :=
 ae K 190 [a0] U (ag (fun v7 U =>
 (aW a0).wp K U (fun v10 U =>
 (af (some 1) v10).wp K U (fun v11 U =>
 (aj aE v11 U).wp K U (fun v12 U =>
 (eH (some (5,1)) false v12 a1 U).wp K U (fun ct U =>
 (aW a0).wp K U (fun bZ U =>
 (af (some 1) bZ).wp K U (fun cO U =>
 (aF aE cO ct U).wp K U (fun _ U =>
 (cw (some true) a1).wp K U (fun cu U =>
 ak R (.aH [cu,.dr]) U) (aa R)) (aa R)) (aa R)) (aa R)) (aa R)) (aa R)) (aa R)) (aa R)) (aa R))
def QP:Prop :=
 (aW a0).wp K U (fun v4 U =>
 (af (some 1) v4).wp K U (fun v5 U =>
 (aj aE v5 U).wp K U (fun v6 U =>
 (cw (some false) v6).wp K U (fun v7 U =>
 ak R v7 U) (aa R)) (aa R)) (aa R)) (aa R)
def QS:Prop :=
 (eS a0).wp K U (fun v3 U =>
 (eS a1).wp K U (fun v4 U =>
 (aD.cE [.bool false]).wp K U (fun v6 U =>
 (af (some 0) v3).wp K U (fun ck U =>
 (af (some 0) ck).wp K U (fun ct U =>
 (aj aE ct U).wp K U (fun bZ U =>
 (aj aE v4 U).wp K U (fun cO U =>
 (aL (some (43,6)) none bZ cO).wp K U (fun dv U =>
 (aj (some (true,6)) dv U).wp K U (fun cu U =>
 (aD.cE [.int .u8 0,.str [],.int .i64 0,.int .i64 0,.int .i64 0,.int .i64 0]).wp K U (fun v7 U =>
 (aF (some (true,6)) v7 cu U).wp K U (fun _ U =>
 (af (some 0) v7).wp K U (fun v21 U =>
 (aj aE v21 U).wp K U (fun dL U =>
 (et (some (.i,204)) (some (.agg [.bool false,.bool false,.bool false,.ah])) a2 dL true U).wp K U (fun dZ U =>
 (aT dZ 0).wp K U (fun v24 U =>
 (aT dZ 1).wp K U (fun eR U =>
 (aD.cE [.bool false,.bool false,.bool false,.ah]).wp K U (fun v8 U =>
 (aF (some (true,4)) v8 v24 U).wp K U (fun _ U =>
 (kr .not eR).wp K U (fun dW U =>
 ao K (aP dW false) (af (some 0) v3) (fun ej =>
 ao K (aP dW false) (af (some 0) ej) (fun v30 =>
 ao K (aP dW false) (aj aE v30 U) (fun v31 =>
 ao K (aP dW false) (cw (some false) v31) (fun fI =>
 ao K (aP dW false) (aj aE v4 U) (fun fC =>
 ao K (aP dW false) (ax .sub aS false fI fC) (fun ic =>
 ao K (aP dW false) (af (some 5) v7) (fun hU =>
 ao K (aP dW false) (aj aE hU U) (fun hX =>
 ao K (aP dW false) (aD.enter 122 [(.int .i64 1),ic,hX]) (fun v37 =>
 ao K (aP dW false) (kr .not v37) (fun gH =>
 (bQ dW (.bool true) gH).wp K U (fun lN U =>
 ao K (aP lN false) (af (some 0) v8) (fun jv =>
 ao K (aP lN false) (aj aE jv U) (fun lO =>
 ao K (aP lN false) (af (some 1) v7) (fun iW =>
 ao K (aP lN false) (aj aE iW U) (fun nz =>
 ao K (aP lN false) (ax .neq aS true nz (.str w_)) (fun nA =>
 ao K (aP lN false) (ax .neq (BT.mk true false false none false) false lO nA) (fun v46 =>
 (bQ lN (.bool true) v46).wp K U (fun nB U =>
 ao K (aP nB false) (af (some 0) v8) (fun v49 =>
 ao K (aP nB false) (aj aE v49 U) (fun jG =>
 ao K (aP nB false) (aD.val jG) (fun v51 =>
 ao K (aP v51 true) (af (some 1) v7) (fun o0 =>
 ao K (aP v51 true) (aj aE o0 U) (fun v53 =>
 ao K (aP v51 true) (aD.enter 208 [v53]) (fun mJ =>
 ao K (aP v51 true) (kr .not mJ) (fun nD =>
 ao K (aP nB false) (bQ v51 nD (.bool false)) (fun qg =>
 (bQ nB (.bool true) qg).wp K U (fun qZ U =>
 aw qZ (
 (aF aE v6 (.bool false) U).wp K U (fun _ U =>
 bq aE v6 U fun r0 =>
 ak R r0 U) (aa R)) (
 (af (some 2) v7).wp K U (fun o4 U =>
 (aj aE o4 U).wp K U (fun v59 U =>
 ae K 122 [(.int .i64 0),(.int .i64 1000000),v59] U (ag (fun uJ U =>
 (kr .not uJ).wp K U (fun nK U =>
 ao K (aP nK false) (af (some 3) v7) (fun pN =>
 ao K (aP nK false) (aj aE pN U) (fun uK =>
 ao K (aP nK false) (aD.enter 122 [(.int .i64 0),(.int .i64 1000000),uK]) (fun rY =>
 ao K (aP nK false) (kr .not rY) (fun vr =>
 (bQ nK (.bool true) vr).wp K U (fun tG U =>
 ao K (aP tG false) (af (some 1) v8) (fun vu =>
 ao K (aP tG false) (aj aE vu U) (fun v70 =>
 ao K (aP tG false) (kr .not v70) (fun Jy =>
 ao K (aP tG false) (aD.val Jy) (fun v72 =>
 ao K (aP v72 true) (af (some 2) v7) (fun BK =>
 ao K (aP v72 true) (aj aE BK U) (fun uL =>
 ao K (aP v72 true) (ax .neq aS true uL (.int .i64 0)) (fun v75 =>
 ao K (aP tG false) (bQ v72 v75 (.bool false)) (fun v76 =>
 (bQ tG (.bool true) v76).wp K U (fun BL U =>
 ao K (aP BL false) (af (some 2) v8) (fun LI =>
 ao K (aP BL false) (aj aE LI U) (fun v80 =>
 ao K (aP BL false) (kr .not v80) (fun Xy =>
 ao K (aP BL false) (aD.val Xy) (fun LJ =>
 ao K (aP LJ true) (af (some 3) v7) (fun v83 =>
 ao K (aP LJ true) (aj aE v83 U) (fun v84 =>
 ao K (aP LJ true) (ax .neq aS true v84 (.int .i64 0)) (fun v85 =>
 ao K (aP BL false) (bQ LJ v85 (.bool false)) (fun v86 =>
 (bQ BL (.bool true) v86).wp K U (fun v87 U =>
 aw v87 (
 (aF aE v6 (.bool false) U).wp K U (fun _ U =>
 bq aE v6 U fun nW =>
 ak R nW U) (aa R)) (
 (aD.cE [.ah]).wp K U (fun v10 U =>
 (aj aE v4 U).wp K U (fun v88 U =>
 (ax .add aS true v88 (.int .i64 1)).wp K U (fun v89 U =>
 (aD.cE [.int .i64 0]).wp K U (fun v11 U =>
 (aF aE v11 v89 U).wp K U (fun _ U =>
 (aj (some (true,1)) v3 U).wp K U (fun v90 U =>
 (aj aE v4 U).wp K U (fun v91 U =>
 ae K 81 [v90,v91] U (ag (fun v92 U =>
 rG K 1 v92 U (fun v93 q U =>
 q.Dd (fun U =>
 (fun aq:St =>
 aB K (aj aE v10 aq) (fun v94 =>
 aB K (af (some 0) v3) (fun v95 =>
 aB K (af (some 0) v95) (fun Xz =>
 aB K (aj aE Xz aq) (fun v97 =>
 aB K (aL (some (43,6)) none v97 v93) (fun v99 =>
 aB K (af (some 0) v99) (fun ab0 =>
 aB K (aj aE ab0 aq) (fun Vy =>
 aB K (ar (some (5,1)) (some [.int .u8 0]) 1 false [(0,Vy)]) (fun ab1 =>
 (eH (some (5,1)) false v94 ab1 U).wp K U (fun af9 U=>cY ((eL ab0++[])++((eL Xz++[])++((eL v10++[])++[]))) aq U /\
 (aF aE v10 af9 U).wp K U (fun _ U =>
 (fun qq:St =>
 aB K (aj aE v4 qq) (fun Vz =>
 aB K (af (some 5) v7) (fun v105 =>
 aB K (aj aE v105 qq) (fun ab2 =>
 aB K (ax .add aS false Vz ab2) (fun v107 =>
 aB K (ax .sub aS false v107 v93) (fun v109 =>
 aB K (af (some 0) v3) (fun agb =>
 aB K (af (some 0) agb) (fun VA =>
 aB K (aj aE VA qq) (fun VB =>
 aB K (aL (some (43,6)) none VB v93) (fun agc =>
 aB K (af (some 5) agc) (fun agd =>
 aB K (aj aE agd qq) (fun VC =>
 aB K (aD.enter 122 [(.int .i64 1),v109,VC]) (fun v117 =>
 aB K (kr .not v117) (fun age =>
 aw age (
 (aF aE v6 (.bool false) U).wp K U (fun _ U =>
 q.r U) (fun _ _=>False)) (
 (af (some 0) v3).wp K U (fun agf U =>
 (af (some 0) agf).wp K U (fun agh U =>
 (aj aE agh U).wp K U (fun agi U =>
 (aL (some (43,6)) none agi v93).wp K U (fun v124 U =>
 (af (some 5) v124).wp K U (fun agj U =>
 (aj aE agj U).wp K U (fun agk U =>
 (ax .add aS false v93 agk).wp K U (fun v127 U =>
 (aF aE v11 v127 U).wp K U (fun _ U =>
 q.n U) (fun _ _=>False)) (fun _ _=>False)) (fun _ _=>False)) (fun _ _=>False)) (fun _ _=>False)) (fun _ _=>False)) (fun _ _=>False)) (fun _ _=>False)))))))))))))))) U) (fun _ _=>False)) (fun _ _=>False)))))))))) U) U) (fun U =>
 (aj aE v11 U).wp K U (fun agl U =>
 (aj aE v4 U).wp K U (fun agm U =>
 (af (some 5) v7).wp K U (fun v130 U =>
 (aj aE v130 U).wp K U (fun v131 U =>
 (ax .add aS false agm v131).wp K U (fun agn U =>
 (ax .eql aS false agl agn).wp K U (fun EC U =>
 ao K (aP EC true) (aj aE v10 U) (fun ago =>
 ao K (aP EC true) (af (some 3) v8) (fun agp =>
 ao K (aP EC true) (aj aE agp U) (fun agq =>
 aw (aP EC true) (
 ae K 209 [ago,agq] U (ag (fun v138 U =>
 (bQ EC v138 (.bool false)).wp K U (fun v139 U =>
 (aF aE v6 v139 U).wp K U (fun _ U =>
 bq aE v6 U fun qD =>
 ak R qD U) (aa R)) (aa R)) (aa R))) (
 (bQ EC (.aH []) (.bool false)).wp K U (fun acd U =>
 (aF aE v6 acd U).wp K U (fun _ U =>
 bq aE v6 U fun yd =>
 ak R yd U) (aa R)) (aa R)))))) (aa R)) (aa R)) (aa R)) (aa R)) (aa R)) (aa R)) (fun i U =>
 Ht (Nat.beq i 0) (
 (aj aE v11 U).wp K U (fun ab3 U =>
 (aj aE v4 U).wp K U (fun ab4 U =>
 (af (some 5) v7).wp K U (fun ab5 U =>
 (aj aE ab5 U).wp K U (fun ab6 U =>
 (ax .add aS false ab4 ab6).wp K U (fun ab7 U =>
 (ax .eql aS false ab3 ab7).wp K U (fun wZ U =>
 ao K (aP wZ true) (aj aE v10 U) (fun ab8 =>
 ao K (aP wZ true) (af (some 3) v8) (fun ab9 =>
 ao K (aP wZ true) (aj aE ab9 U) (fun aca =>
 aw (aP wZ true) (
 ae K 209 [ab8,aca] U (ag (fun acb U =>
 (bQ wZ acb (.bool false)).wp K U (fun ace U =>
 (aF aE v6 ace U).wp K U (fun _ U =>
 bq aE v6 U fun IW =>
 ak R IW U) (aa R)) (aa R)) (aa R))) (
 (bQ wZ (.aH []) (.bool false)).wp K U (fun acf U =>
 (aF aE v6 acf U).wp K U (fun _ U =>
 bq aE v6 U fun IX =>
 ak R IX U) (aa R)) (aa R)))))) (aa R)) (aa R)) (aa R)) (aa R)) (aa R)) (aa R)) (
 False)) (fun U =>
 bq aE v6 U fun afU =>
 ak R afU U) (fun x U=>(aa R) x U)) (aa R))) (aa R)) (aa R)) (aa R)) (aa R)) (aa R)) (aa R)) (aa R))) (aa R)))))))))) (aa R)))))))))) (aa R)))))) (aa R)) (aa R))) (aa R)) (aa R))) (aa R)))))))))) (aa R)))))))) (aa R)))))))))))) (aa R)) (aa R)) (aa R)) (aa R)) (aa R)) (aa R)) (aa R)) (aa R)) (aa R)) (aa R)) (aa R)) (aa R)) (aa R)) (aa R)) (aa R)) (aa R)) (aa R)) (aa R)) (aa R)
def QU:Prop :=
 ae K 210 [a0,a1] U (ag (fun v10 U =>
 (ax .eql aS true v10 (.int .i64 (-1))).wp K U (fun v12 U =>
 aw v12 (
 ak R a0 U) (
 (ax .add aS true v10 (.int .i64 1)).wp K U (fun bZ U =>
 eW 4 [a0,a1,v10,bZ] U fun lp v0 v1 v5 v6 U =>
 (cw (some false) v0).wp K U (fun cu U =>
 (ax .lss aS false v6 cu).wp K U (fun da U =>
 aw da (
 jR 4 (fun iy od yo pv U =>
 (ax .add aS true pv (.int .i64 1)).wp K U (fun v21 U =>
 lp iy od yo v21 U) (aa R)) fun j =>
 (aL (some (3,1)) none v0 v6).wp K U (fun v24 U =>
 (aj aE v24 U).wp K U (fun eR U =>
 (iN K.P v1 [eR]).wp K U (fun v28 U =>
 (kr .not v28).wp K U (fun ej U =>
 aw ej (
 (aL (some (3,1)) none v0 v5).wp K U (fun fC U =>
 (aF aE fC eR U).wp K U (fun _ U =>
 (ax .add aS true v5 (.int .i64 1)).wp K U (fun hU U =>
 j v0 v1 hU v6 U) (aa R)) (aa R)) (aa R)) (
 j v0 v1 v5 v6 U)) (aa R)) (aa R)) (aa R)) (aa R)) (
 (fG false (some (3,1)) v0 (some v5) none).wp K U (fun gH U =>
 (CD (some (3,1)) (some [.int .i64 0]) gH U).wp K U (fun _ U =>
 (fG false (some (3,1)) v0 none (some v5)).wp K U (fun jv U =>
 ak R jv U) (aa R)) (aa R)) (aa R))) (aa R)) (aa R)) (aa R))) (aa R)) (aa R))
def QW:Prop :=
 (aj aE a1 U).wp K U (fun v5 U =>
 (ax .leq aS false a0 v5).wp K U (fun v6 U =>
 ak R v6 U) (aa R)) (aa R)
def QY:Prop :=
 (ar (some (178,1)) (some [.int .i64 0]) 1 false [(0,(.int .i64 0))]).wp K U (fun v4 U =>
 ae K 151 [a0,v4] U (ag (fun v5 U =>
 (kr .not v5).wp K U (fun v6 U =>
 ak R v6 U) (aa R)) (aa R))) (aa R)
def Q0:Prop :=
 eW 4 [a0,a1,a2,(.int .i64 0)] U fun lp v0 v1 v2 v4 U =>
 (aj aE v1 U).wp K U (fun v9 U =>
 (cw (some true) v9).wp K U (fun v10 U =>
 (ax .lss aS false v4 v10).wp K U (fun v11 U =>
 aw v11 (
 (aj aE v1 U).wp K U (fun v12 U =>
 (iv true none none v12 v4).wp K U (fun ct U =>
 jR 6 (fun iy od jC nC rN v24 U =>
 aw v24 (
 (ax .add aS true nC (.int .i64 1)).wp K U (fun v28 U =>
 lp iy od jC v28 U) (aa R)) (
 (ax .eql aS true rN (.int .u8 126)).wp K U (fun v30 U =>
 aw v30 (
 (aj aE od U).wp K U (fun fI U =>
 (fG true none fI (some nC) none).wp K U (fun ic U =>
 ae K 148 [ic,(.str rO)] U (ag (fun hU U =>
 (aT hU 0).wp K U (fun hX U =>
 (aT hU 1).wp K U (fun v37 U =>
 (aT hU 2).wp K U (fun gH U =>
 (iN K.P iy [nC,hX]).wp K U (fun lO U =>
 (kr .not lO).wp K U (fun iW U =>
 aw iW (
 ak R (.aH []) U) (
 (cw (some true) hX).wp K U (fun v46 U =>
 (ax .add aS false nC v46).wp K U (fun nB U =>
 lp iy od jC nB U) (aa R)) (aa R))) (aa R)) (aa R)) (aa R)) (aa R)) (aa R)) (aa R))) (aa R)) (aa R)) (
 (iN K.P iy [nC,(.str w_)]).wp K U (fun dv U =>
 (kr .not dv).wp K U (fun cu U =>
 aw cu (
 ak R (.aH []) U) (
 (aj aE jC U).wp K U (fun v20 U =>
 (iN K.P v20 [nC]).wp K U (fun dL U =>
 (ax .add aS false nC dL).wp K U (fun dZ U =>
 lp iy od jC dZ U) (aa R)) (aa R)) (aa R))) (aa R)) (aa R))) (aa R))) fun j =>
 (ax .eql aS true ct (.int .u8 32)).wp K U (fun eR U =>
 aw eR (
 j v0 v1 v2 v4 ct eR U) (
 (ax .eql aS true ct (.int .u8 10)).wp K U (fun fR U =>
 j v0 v1 v2 v4 ct fR U) (aa R))) (aa R)) (aa R)) (aa R)) (
 ak R (.aH []) U)) (aa R)) (aa R)) (aa R)
def abH:Prop :=
 ae K 212 [a0,a1] U (ag (fun v9 U =>
 (aT v9 0).wp K U (fun v10 U =>
 (aT v9 1).wp K U (fun v11 U =>
 (aT v9 2).wp K U (fun v12 U =>
 ak R (.aH [v10,v11,v12]) U) (aa R)) (aa R)) (aa R)) (aa R))
def Q3:Prop :=
 eW 2 [a0,(.int .i64 0)] U fun lp v0 v2 U =>
 (cw (some true) v0).wp K U (fun v5 U =>
 (ax .lss aS false v2 v5).wp K U (fun v6 U =>
 ao K (aP v6 true) (aD.val v0) (fun v8 =>
 ao K (aP v6 true) (aD.val v2) (fun v9 =>
 ao K (aP v6 true) (iv true none none v8 v9) (fun v10 =>
 ao K (aP v6 true) (ar (some (178,1)) (some [.int .i64 0]) 3 false [(0,(.int .i64 2)),(1,(.int .i64 3)),(2,(.int .i64 4))]) (fun v11 =>
 ao K (aP v6 true) (aD.enter 151 [v10,v11]) (fun v12 =>
 (bQ v6 v12 (.bool false)).wp K U (fun ck U =>
 aw ck (
 (ax .add aS true v2 (.int .i64 1)).wp K U (fun bZ U =>
 lp v0 bZ U) (aa R)) (
 ak R v2 U)) (aa R))))))) (aa R)) (aa R)
def Q5:Prop :=
 (aD.cE [.int .u8 0,.str [],.int .i64 0]).wp K U (fun v2 U =>
 (dO none (some [.str [],.str []]) (some (2,9,1)) [(0,(.str bV)),(1,(.str fO))]).wp K U (fun v6 U =>
 eW 4 [a0,v2,v6,(.int .i64 0)] U fun lp v0 jC pv v7 U =>
 (ax .lss aS true v7 (.int .i64 2)).wp K U (fun v8 U =>
 aw v8 (
 (iv false (some (2,9,1)) aE pv v7).wp K U (fun v9 U =>
 ae K 213 [v0,v9] U (ag (fun v12 U =>
 aw v12 (
 (dO (some [(0,1),(1,1),(2,1)]) (some [.int .u8 0,.str [],.int .i64 0]) none [(0,(.int .u8 4)),(1,v9)]).wp K U (fun ct U =>
 (aF (some (true,3)) jC ct U).wp K U (fun _ U =>
 bq (some (true,3)) jC U fun r0 =>
 ak R (.aH [r0,(.int .i64 0)]) U) (aa R)) (aa R)) (
 (ax .add aS true v7 (.int .i64 1)).wp K U (fun bZ U =>
 lp v0 jC pv bZ U) (aa R))) (aa R))) (aa R)) (
 (ax .eql aS true v0 (.str w_)).wp K U (fun dv U =>
 ao K (aP dv false) (aD.val v0) (fun da =>
 ao K (aP dv false) (iv true none none da (.int .i64 0)) (fun v20 =>
 ao K (aP dv false) (aD.enter 214 [(.str eo),v20]) (fun v21 =>
 ao K (aP dv false) (ax .lss aS true v21 (.int .i64 0)) (fun dL =>
 (bQ dv (.bool true) dL).wp K U (fun dZ U =>
 aw dZ (
 (dO (some [(0,1),(1,1),(2,1)]) (some [.int .u8 0,.str [],.int .i64 0]) none []).wp K U (fun v24 U =>
 (aF (some (true,3)) jC v24 U).wp K U (fun _ U =>
 bq (some (true,3)) jC U fun nW =>
 ak R (.aH [nW,(.int .i64 4)]) U) (aa R)) (aa R)) (
 (fG true none v0 none (some (.int .i64 1))).wp K U (fun fR U =>
 (dO (some [(0,1),(1,1),(2,1)]) (some [.int .u8 0,.str [],.int .i64 0]) none [(0,(.int .u8 4)),(1,fR)]).wp K U (fun dW U =>
 (aF (some (true,3)) jC dW U).wp K U (fun _ U =>
 bq (some (true,3)) jC U fun qD =>
 ak R (.aH [qD,(.int .i64 0)]) U) (aa R)) (aa R)) (aa R))) (aa R)))))) (aa R))) (aa R)) (aa R)) (aa R)
def abI:Prop :=
 ae K 216 [a0] U (ag (fun v7 U =>
 ae K 215 [a1,v7] U (ag (fun v8 U =>
 ak R v8 U) (aa R))) (aa R))
def Q8:Prop :=
 (cw (some true) a0).wp K U (fun v6 U =>
 eW 4 [a0,(.int .i64 0),v6,(.int .i64 0)] U fun lp v0 v3 pv v7 U =>
 (ax .lss aS false v7 pv).wp K U (fun v8 U =>
 aw v8 (
 (iv true none none v0 v7).wp K U (fun v12 U =>
 (ar (some (178,1)) (some [.int .i64 0]) 1 false [(0,(.int .i64 2))]).wp K U (fun ck U =>
 ae K 151 [v12,ck] U (ag (fun ct U =>
 (kr .not ct).wp K U (fun bZ U =>
 aw bZ (
 ak R (.int .i64 4) U) (
 (ax .mul aS true (.int .i64 10) v3).wp K U (fun dv U =>
 (iv true none none v0 v7).wp K U (fun v20 U =>
 (ax .sub aS true v20 (.int .u8 48)).wp K U (fun v21 U =>
 (GA (some .i64) true false false v21).wp K U (fun dL U =>
 (ax .add aS false dv dL).wp K U (fun dZ U =>
 (zG dZ (.int .i64 1000001)).wp K U (fun v24 U =>
 (ax .add aS true v7 (.int .i64 1)).wp K U (fun eR U =>
 lp v0 v24 pv eR U) (aa R)) (aa R)) (aa R)) (aa R)) (aa R)) (aa R)) (aa R))) (aa R)) (aa R))) (aa R)) (aa R)) (
 (cw (some true) v0).wp K U (fun v28 U =>
 (ax .gtr aS true v28 (.int .i64 1)).wp K U (fun ej U =>
 ao K (aP ej true) (aD.val v0) (fun v31 =>
 ao K (aP ej true) (iv true none none v31 (.int .i64 0)) (fun fI =>
 ao K (aP ej true) (ax .eql aS true fI (.int .u8 48)) (fun fC =>
 (bQ ej fC (.bool false)).wp K U (fun ic U =>
 aw ic (
 ak R (.int .i64 4) U) (
 (ax .gtr aS true v3 (.int .i64 1000000)).wp K U (fun v37 U =>
 aw v37 (
 ak R (.int .i64 3) U) (
 ak R (.int .i64 0) U)) (aa R))) (aa R))))) (aa R)) (aa R))) (aa R)) (aa R)
def WU:Prop :=
 (eS a0).wp K U (fun v1 U =>
 (af (some 0) v1).wp K U (fun v4 U =>
 (aj aE v4 U).wp K U (fun v5 U =>
 (cw (some false) v5).wp K U (fun v6 U =>
 (ax .gtr aS true v6 (.int .i64 900)).wp K U (fun v7 U =>
 aw v7 (
 ak R (.int .i64 5) U) (
 (aj (some (true,1)) v1 U).wp K U (fun v9 U =>
 (dO (some [(0,1)]) (some [.ah]) none [(0,v9)]).wp K U (fun v10 U =>
 ae K 68 [v10] U (ag (fun v11 U =>
 (kr .not v11).wp K U (fun v12 U =>
 aw v12 (
 ak R (.int .i64 4) U) (
 (aj (some (true,1)) v1 U).wp K U (fun ct U =>
 ae K 69 [ct] U (ag (fun bZ U =>
 aw bZ (
 ak R (.int .i64 5) U) (
 ak R (.int .i64 0) U)) (aa R))) (aa R))) (aa R)) (aa R))) (aa R)) (aa R))) (aa R)) (aa R)) (aa R)) (aa R)) (aa R)
def WV:Prop :=
 (eS a0).wp K U (fun v1 U =>
 (aD.cE [.ah]).wp K U (fun v2 U =>
 (aD.cE [.int .i64 0]).wp K U (fun v3 U =>
 (aD.cE [.int .i64 0]).wp K U (fun v4 U =>
 (aj aE v1 U).wp K U (fun ct U =>
 ae K 74 [ct] U (ag (fun bZ U =>
 (aT bZ 0).wp K U (fun cO U =>
 (aT bZ 1).wp K U (fun dv U =>
 (ax .neq aS true dv (.int .i64 0)).wp K U (fun da U =>
 aw da (
 (aF aE v2 .ah U).wp K U (fun _ U =>
 (aF aE v3 cO U).wp K U (fun _ U =>
 (aF aE v4 dv U).wp K U (fun _ U =>
 bq aE v2 U fun r0 =>
 bq aE v3 U fun r1 =>
 bq aE v4 U fun r2 =>
 ak R (.aH [r0,r1,r2]) U) (aa R)) (aa R)) (aa R)) (
 (aD.cE [.ah]).wp K U (fun v7 U =>
 (aj aE v1 U).wp K U (fun dZ U =>
 ae K 76 [dZ,(.func (.func 75) [] [v7])] U (ag (fun eR U =>
 rG K 2 eR U (fun fR dW q U =>
 q.Dd (fun U =>
 (ax .neq aS true dW (.str w_)).wp K U (fun ej U =>
 aw ej (
 q.n U) (
 (aj aE v1 U).wp K U (fun v31 U =>
 (fG true none v31 (some fR) none).wp K U (fun fC U =>
 ae K 77 [fC] U (ag (fun ic U =>
 (aT ic 0).wp K U (fun hU U =>
 (aT ic 1).wp K U (fun hX U =>
 (aD.cE [.int .u8 0,.str [],.int .i64 0]).wp K U (fun v11 U =>
 (aF (some (true,3)) v11 hU U).wp K U (fun _ U =>
 jR 7 (fun jC yn nC lD v9 DG v12 U =>
 (ax .neq aS true v12 (.int .i64 0)).wp K U (fun nA U =>
 aw nA (
 (aF aE jC .ah U).wp K U (fun _ U =>
 (aF aE yn v9 U).wp K U (fun _ U =>
 (aF aE nC v12 U).wp K U (fun _ U =>
 q.r U) (fun _ _=>False)) (fun _ _=>False)) (fun _ _=>False)) (
 (af (some 2) DG).wp K U (fun v49 U =>
 (aF aE v49 v9 U).wp K U (fun _ U =>
 (aj aE lD U).wp K U (fun jG U =>
 (aj (some (true,3)) DG U).wp K U (fun v51 U =>
 (ar (some (51,3)) (some [.int .u8 0,.str [],.int .i64 0]) 1 false [(0,v51)]).wp K U (fun o0 U =>
 (eH (some (51,3)) false jG o0 U).wp K U (fun v53 U =>
 (aF aE lD v53 U).wp K U (fun _ U =>
 q.n U) (fun _ _=>False)) (fun _ _=>False)) (fun _ _=>False)) (fun _ _=>False)) (fun _ _=>False)) (fun _ _=>False)) (fun _ _=>False))) (fun _ _=>False)) fun j =>
 (ax .eql aS true hX (.int .i64 0)).wp K U (fun gH U =>
 ao K (aP gH true) (aj aE v7 U) (fun v40 =>
 ao K (aP gH true) (cw (some false) v40) (fun jv =>
 ao K (aP gH true) (ax .eql aS true jv (.int .i64 900)) (fun lO =>
 (bQ gH lO (.bool false)).wp K U (fun iW U =>
 aw iW (
 j v2 v3 v4 v7 fR v11 (.int .i64 5) U) (
 j v2 v3 v4 v7 fR v11 hX U)) (fun _ _=>False))))) (fun _ _=>False)) (fun _ _=>False)) (fun _ _=>False)) (fun _ _=>False)) (fun _ _=>False)) (fun _ _=>False))) (fun _ _=>False)) (fun _ _=>False))) (fun _ _=>False)) U) (fun U =>
 (aj aE v7 U).wp K U (fun mJ U =>
 (aF aE v2 mJ U).wp K U (fun _ U =>
 (aF aE v3 (.int .i64 0) U).wp K U (fun _ U =>
 (aF aE v4 (.int .i64 0) U).wp K U (fun _ U =>
 bq aE v2 U fun nW =>
 bq aE v3 U fun IY =>
 bq aE v4 U fun afX =>
 ak R (.aH [nW,IY,afX]) U) (aa R)) (aa R)) (aa R)) (aa R)) (fun i U =>
 Ht (Nat.beq i 0) (
 (aj aE v7 U).wp K U (fun NO U =>
 (aF aE v2 NO U).wp K U (fun _ U =>
 (aF aE v3 (.int .i64 0) U).wp K U (fun _ U =>
 (aF aE v4 (.int .i64 0) U).wp K U (fun _ U =>
 bq aE v2 U fun qD =>
 bq aE v3 U fun IZ =>
 bq aE v4 U fun afY =>
 ak R (.aH [qD,IZ,afY]) U) (aa R)) (aa R)) (aa R)) (aa R)) (
 False)) (fun U =>
 bq aE v2 U fun yd =>
 bq aE v3 U fun UI =>
 bq aE v4 U fun afZ =>
 ak R (.aH [yd,UI,afZ]) U) (fun x U=>(aa R) x U)) (aa R))) (aa R)) (aa R))) (aa R)) (aa R)) (aa R)) (aa R))) (aa R)) (aa R)) (aa R)) (aa R)) (aa R)
def WW:Prop :=
 (eS a0).wp K U (fun v1 U =>
 (aD.cE [.ah]).wp K U (fun v2 U =>
 (aj (some (true,1)) v1 U).wp K U (fun v7 U =>
 ae K 26 [v7] U (ag (fun v8 U =>
 ae K 40 [v8] U (ag (fun v9 U =>
 (aT v9 0).wp K U (fun v10 U =>
 (aT v9 1).wp K U (fun v11 U =>
 (aD.cE [.ah]).wp K U (fun v4 U =>
 (aF (some (true,1)) v4 v10 U).wp K U (fun _ U =>
 (aj (some (true,1)) v4 U).wp K U (fun v12 U =>
 (ax .eql aS true v11 (.int .i64 0)).wp K U (fun ct U =>
 (aF (some (true,1)) v2 v12 U).wp K U (fun _ U =>
 bq (some (true,1)) v2 U fun r0 =>
 ak R (.aH [r0,ct]) U) (aa R)) (aa R)) (aa R)) (aa R)) (aa R)) (aa R)) (aa R)) (aa R))) (aa R))) (aa R)) (aa R)) (aa R)
def WX:Prop :=
 (eS a0).wp K U (fun v1 U =>
 (aD.cE [.ah]).wp K U (fun v2 U =>
 (aj (some (true,1)) v1 U).wp K U (fun v4 U =>
 ae K 87 [v4,(.int .i64 0),(.func (.func 88) [] [])] U (ag (fun v5 U =>
 (aT v5 0).wp K U (fun v6 U =>
 (aT v5 1).wp K U (fun v7 U =>
 (aF (some (true,1)) v2 v6 U).wp K U (fun _ U =>
 bq (some (true,1)) v2 U fun r0 =>
 ak R (.aH [r0,v7]) U) (aa R)) (aa R)) (aa R)) (aa R))) (aa R)) (aa R)) (aa R)
def WY:Prop :=
 (cw (some false) a0).wp K U (fun v7 U =>
 (cw (some false) a1).wp K U (fun v9 U =>
 (ax .neq aS false v7 v9).wp K U (fun v10 U =>
 aw v10 (
 ak R (.bool false) U) (
 eW 3 [a0,a1,(.int .i64 0)] U fun lp v0 v1 v5 U =>
 (cw (some false) v0).wp K U (fun ck U =>
 (ax .lss aS false v5 ck).wp K U (fun ct U =>
 aw ct (
 (fun aq:St =>
 aB K (aL (some (43,6)) none v0 v5) (fun da =>
 aB K (aj (some (true,6)) da aq) (fun v20 =>
 aB K (aL (some (43,6)) none v1 v5) (fun dZ =>
 aB K (aj (some (true,6)) dZ aq) (fun v24 =>
 aB K (ax .neq (BT.mk false false false (some [.i,.s,.i,.i,.i,.i]) false) false v20 v24) (fun eR =>
 aw eR (
 ak R (.bool false) U) (
 (ax .add aS true v5 (.int .i64 1)).wp K U (fun cO U =>
 lp v0 v1 cO U) (aa R)))))))) U) (
 ak R (.bool true) U)) (aa R)) (aa R))) (aa R)) (aa R)) (aa R)
def WZ:Prop :=
 (cw (some false) a0).wp K U (fun v5 U =>
 (ax .gtr aS true v5 (.int .i64 1000)).wp K U (fun v6 U =>
 aw v6 (
 ak R (.bool false) U) (
 eW 2 [a0,(.int .i64 0)] U fun lp v0 v3 U =>
 (cw (some false) v0).wp K U (fun v9 U =>
 (ax .lss aS false v3 v9).wp K U (fun v10 U =>
 aw v10 (
 (aL (some (43,6)) none v0 v3).wp K U (fun bZ U =>
 (af (some 1) bZ).wp K U (fun cO U =>
 (aj aE cO U).wp K U (fun dv U =>
 (cw (some true) dv).wp K U (fun cu U =>
 (ax .gtr aS true cu (.int .i64 100)).wp K U (fun da U =>
 aw da (
 ak R (.bool false) U) (
 (ax .add aS true v3 (.int .i64 1)).wp K U (fun v12 U =>
 lp v0 v12 U) (aa R))) (aa R)) (aa R)) (aa R)) (aa R)) (aa R)) (
 ak R (.bool true) U)) (aa R)) (aa R))) (aa R)) (aa R)
def abP:Prop :=
 (eS a0).wp K U (fun v1 U =>
 (aj (some (true,1)) v1 U).wp K U (fun bZ U =>
 ae K 24 [bZ] U (ag (fun cO U =>
 (kr .not cO).wp K U (fun dv U =>
 aw dv (
 ae K 17 [] U (ag (fun cu U =>
 ak R cu U) (aa R))) (
 (aj (some (true,1)) v1 U).wp K U (fun v20 U =>
 ae K 26 [v20] U (ag (fun v21 U =>
 ae K 25 [v21] U (ag (fun dL U =>
 (aT dL 0).wp K U (fun dZ U =>
 (aT dL 1).wp K U (fun v24 U =>
 (ax .neq aS true v24 (.int .i64 0)).wp K U (fun fR U =>
 aw fR (
 ae K 17 [] U (ag (fun dW U =>
 ak R dW U) (aa R))) (
 ae K 18 [dZ] U (ag (fun v30 U =>
 (aT v30 0).wp K U (fun v31 U =>
 (aT v30 1).wp K U (fun fI U =>
 (aT v30 2).wp K U (fun fC U =>
 (aD.cE [.ah]).wp K U (fun v5 U =>
 (aF (some (true,1)) v5 v31 U).wp K U (fun _ U =>
 (ax .eql aS true fC (.int .i64 5)).wp K U (fun hU U =>
 aw hU (
 ae K 33 [dZ] U (ag (fun gH U =>
 (aT gH 0).wp K U (fun lN U =>
 (aT gH 1).wp K U (fun v40 U =>
 (aT gH 2).wp K U (fun jv U =>
 (ax .eql aS true jv (.int .i64 5)).wp K U (fun iW U =>
 ao K (aP iW true) (aD.val lN) (fun nA =>
 ao K (aP iW true) (cw (some false) nA) (fun v46 =>
 ao K (aP iW true) (ax .eql aS true v46 (.int .i64 0)) (fun nB =>
 (bQ iW nB (.bool false)).wp K U (fun qY U =>
 ao K (aP qY true) (aD.enter 17 []) (fun jG =>
 (bQ qY jG (.bool false)).wp K U (fun v51 U =>
 ak R v51 U) (aa R))) (aa R))))) (aa R)) (aa R)) (aa R)) (aa R)) (aa R))) (
 (aj (some (true,1)) v1 U).wp K U (fun v53 U =>
 ae K 36 [v53] U (ag (fun mJ U =>
 (aT mJ 0).wp K U (fun nD U =>
 (aT mJ 1).wp K U (fun qg U =>
 (aD.cE [.ah]).wp K U (fun v11 U =>
 (aF (some (true,1)) v11 nD U).wp K U (fun _ U =>
 (aj (some (true,1)) v5 U).wp K U (fun o4 U =>
 ae K 36 [o4] U (ag (fun v59 U =>
 (aT v59 0).wp K U (fun uJ U =>
 (aT v59 1).wp K U (fun nK U =>
 (aD.cE [.ah]).wp K U (fun ck U =>
 (aF (some (true,1)) ck uJ U).wp K U (fun _ U =>
 (ax .eql aS true fC (.int .i64 0)).wp K U (fun pN U =>
 ao K (aP pN true) (aD.val qg) (fun rY =>
 (bQ pN rY (.bool false)).wp K U (fun vr U =>
 ao K (aP vr true) (aD.val nK) (fun xe =>
 (bQ vr xe (.bool false)).wp K U (fun vu U =>
 ao K (aP vu true) (aj (some (true,1)) v11 U) (fun Jy =>
 ao K (aP vu true) (aj (some (true,1)) ck U) (fun v72 =>
 ao K (aP vu true) (aD.enter 22 [Jy,v72]) (fun BK =>
 (bQ vu BK (.bool false)).wp K U (fun uL U =>
 ao K (aP uL true) (aD.enter 17 []) (fun v76 =>
 (bQ uL v76 (.bool false)).wp K U (fun BL U =>
 ak R BL U) (aa R))) (aa R))))) (aa R))) (aa R))) (aa R)) (aa R)) (aa R)) (aa R)) (aa R)) (aa R))) (aa R)) (aa R)) (aa R)) (aa R)) (aa R)) (aa R))) (aa R))) (aa R)) (aa R)) (aa R)) (aa R)) (aa R)) (aa R)) (aa R)))) (aa R)) (aa R)) (aa R)) (aa R))) (aa R))) (aa R))) (aa R)) (aa R))) (aa R)) (aa R)
def WN:Prop :=
 (aD.cE [.ah]).wp K U (fun v2 U =>
 ae K 53 [a0] U (ag (fun bZ U =>
 (aT bZ 0).wp K U (fun cO U =>
 (aT bZ 1).wp K U (fun dv U =>
 (aT bZ 2).wp K U (fun cu U =>
 (ax .neq aS true cu (.int .i64 0)).wp K U (fun v20 U =>
 aw v20 (
 (dO (some [(0,1)]) (some [.ah]) none []).wp K U (fun v21 U =>
 (aF (some (true,1)) v2 v21 U).wp K U (fun _ U =>
 bq (some (true,1)) v2 U fun r0 =>
 ak R (.aH [r0,dv,cu]) U) (aa R)) (aa R)) (
 eW 3 [v2,cO,.ah] U fun lp jC v5 v8 U =>
 (fun aq:St =>
 aB K (aW v5) (fun eR =>
 aB K (af (some 1) eR) (fun fR =>
 aB K (aj aE fR aq) (fun dW =>
 aB K (aW v5) (fun ej =>
 aB K (af (some 0) ej) (fun v30 =>
 aB K (aj aE v30 aq) (fun v31 =>
 aB K (cw (some false) v31) (fun fI =>
 aB K (ax .lss aS false dW fI) (fun fC =>
 aw fC (
 ae K 54 [v5,(.func (.func 55) [v5] [])] U (ag (fun gH U =>
 (aT gH 0).wp K U (fun lN U =>
 (aT gH 1).wp K U (fun v40 U =>
 (aT gH 2).wp K U (fun jv U =>
 (kr .not jv).wp K U (fun iW U =>
 aw iW (
 (dO (some [(0,1)]) (some [.ah]) none []).wp K U (fun nz U =>
 (aF (some (true,1)) jC nz U).wp K U (fun _ U =>
 bq (some (true,1)) jC U fun nW =>
 ak R (.aH [nW,v40,(.int .i64 4)]) U) (aa R)) (aa R)) (
 (ar (some (87,1)) (some [.aY]) 1 false [(0,lN)]).wp K U (fun qY U =>
 (eH (some (87,1)) false v8 qY U).wp K U (fun v49 U =>
 lp jC v5 v49 U) (aa R)) (aa R))) (aa R)) (aa R)) (aa R)) (aa R)) (aa R))) (
 ae K 56 [v8] U (ag (fun o0 U =>
 (aT o0 0).wp K U (fun v53 U =>
 (aT o0 1).wp K U (fun mJ U =>
 (aD.cE [.ah]).wp K U (fun v12 U =>
 (aF (some (true,1)) v12 v53 U).wp K U (fun _ U =>
 (aj (some (true,1)) v12 U).wp K U (fun nD U =>
 (aF (some (true,1)) jC nD U).wp K U (fun _ U =>
 bq (some (true,1)) jC U fun qD =>
 ak R (.aH [qD,(.int .i64 0),mJ]) U) (aa R)) (aa R)) (aa R)) (aa R)) (aa R)) (aa R)) (aa R)))))))))))) U)) (aa R)) (aa R)) (aa R)) (aa R)) (aa R))) (aa R)
def WO:Prop :=
 (eS a0).wp K U (fun v2 U =>
 (eS a1).wp K U (fun v3 U =>
 (af (some 0) v2).wp K U (fun v5 U =>
 (aj aE v5 U).wp K U (fun v6 U =>
 (af (some 0) v3).wp K U (fun v7 U =>
 (aj aE v7 U).wp K U (fun v8 U =>
 ae K 47 [v6,v8] U (ag (fun v9 U =>
 ak R v9 U) (aa R))) (aa R)) (aa R)) (aa R)) (aa R)) (aa R)) (aa R)
def WQ:Prop :=
 (eS a0).wp K U (fun v1 U =>
 (af (some 0) v1).wp K U (fun v3 U =>
 (aj aE v3 U).wp K U (fun v4 U =>
 ae K 49 [v4] U (ag (fun v5 U =>
 ak R v5 U) (aa R))) (aa R)) (aa R)) (aa R)
def WR:Prop :=
 (eS a0).wp K U (fun v1 U =>
 (aj (some (true,1)) v1 U).wp K U (fun v4 U =>
 ae K 28 [v4,(.int .i64 0)] U (ag (fun v5 U =>
 (aT v5 0).wp K U (fun v6 U =>
 (aT v5 1).wp K U (fun v7 U =>
 ak R (.aH [v6,v7]) U) (aa R)) (aa R)) (aa R))) (aa R)) (aa R)
def WS:Prop :=
 (eS a0).wp K U (fun v1 U =>
 (aD.cE [.ah]).wp K U (fun v2 U =>
 (af (some 0) v1).wp K U (fun v3 U =>
 (aj aE v3 U).wp K U (fun v4 U =>
 (eH (some (43,6)) true .ah v4 U).wp K U (fun v5 U =>
 (dO (some [(0,1)]) (some [.ah]) none [(0,v5)]).wp K U (fun v6 U =>
 (aF (some (true,1)) v2 v6 U).wp K U (fun _ U =>
 bq (some (true,1)) v2 U fun r0 =>
 ak R r0 U) (aa R)) (aa R)) (aa R)) (aa R)) (aa R)) (aa R)) (aa R)
def WT:Prop :=
 (eS a0).wp K U (fun v2 U =>
 (eS a1).wp K U (fun v3 U =>
 (aj (some (true,1)) v2 U).wp K U (fun v6 U =>
 (aj aE v3 U).wp K U (fun v7 U =>
 ae K 62 [v6,v7,(.func (.func 63) [] [v3])] U (ag (fun v9 U =>
 (aT v9 0).wp K U (fun v10 U =>
 (aT v9 1).wp K U (fun v11 U =>
 ak R (.aH [v10,v11]) U) (aa R)) (aa R)) (aa R))) (aa R)) (aa R)) (aa R)) (aa R)
end
section
variable {a0 a1 a2 a3 a4 a5 a6:AV} {R:cR->St->Prop} {U:St}
theorem UZ (h:W0 a0 R U):ae K 53 [a0] U R:=bJ Tryz.f53 acO h
theorem U0 (h:W1 a0 R U):ae K 55 [a0] U R:=bJ Tryz.f55 acP h
theorem U1 (h:W2 a0 R U):ae K 56 [a0] U R:=bJ Tryz.f56 acQ h
theorem U2 (h:W3 a0 R U):ae K 61 [a0] U R:=bJ Tryz.f61 acR h
theorem U3 (h:W4 a0 a1 a2 R U):ae K 62 [a0,a1,a2] U R:=bJ Tryz.f62 acS h
theorem U4 (h:W5 a0 a1 R U):ae K 63 [a0,a1] U R:=bJ Tryz.f63 acT h
theorem Jf (h:Nv a0 a1 R U):ae K 64 [a0,a1] U R:=bJ Tryz.f64 acU h
theorem U5 (h:W6 a0 R U):ae K 68 [a0] U R:=bJ Tryz.f68 acV h
theorem U6 (h:W7 a0 R U):ae K 69 [a0] U R:=bJ Tryz.f69 acW h
theorem U7 (h:W8 a0 R U):ae K 74 [a0] U R:=bJ Tryz.f74 acX h
theorem U8 (h:W9 a0 a1 R U):ae K 75 [a0,a1] U R:=bJ Tryz.f75 acY h
theorem U9 (h:Xa a0 a1 R U):ae K 76 [a0,a1] U R:=bJ Tryz.f76 acZ h
theorem Va (h:Xb a0 R U):ae K 77 [a0] U R:=bJ Tryz.f77 ac0 h
theorem Vb (h:Xc a0 a1 R U):ae K 81 [a0,a1] U R:=bJ Tryz.f81 ac1 h
theorem Vc (h:Xd a0 a1 a2 R U):ae K 87 [a0,a1,a2] U R:=bJ Tryz.f87 ac2 h
theorem Vd (h:Xe a0 R U):ae K 88 [a0] U R:=bJ Tryz.f88 ac3 h
theorem Ve (h:Xf a0 R U):ae K 89 [a0] U R:=bJ Tryz.f89 ac4 h
theorem Vf (h:Xg a0 R U):ae K 93 [a0] U R:=bJ Tryz.f93 ac5 h
theorem Vg (h:ad5 a0 a1 R U):ae K 99 [a0,a1] U R:=bJ Tryz.f99 ac6 h
theorem Qn (h:Qm a0 a1 R U):ae K 100 [a0,a1] U R:=bJ Tryz.f100 Za h
theorem Qo (h:abE a0 R U):ae K 101 [a0] U R:=bJ Tryz.f101 Zb h
theorem Qp (h:abF a0 a1 R U):ae K 102 [a0,a1] U R:=bJ Tryz.f102 Zc h
theorem Qs (h:Qq a0 a1 R U):ae K 103 [a0,a1] U R:=bJ Tryz.f103 Zd h
theorem Qu (h:Qt a0 R U):ae K 104 [a0] U R:=bJ Tryz.f104 Ze h
theorem Qv (h:abG a0 a1 R U):ae K 105 [a0,a1] U R:=bJ Tryz.f105 Zf h
theorem F3 (h:Ja a0 a1 a2 R U):ae K 106 [a0,a1,a2] U R:=bJ Tryz.f106 Zg h
theorem Qy (h:Qw a0 R U):ae K 107 [a0] U R:=bJ Tryz.f107 Zh h
theorem QA (h:Qz a0 R U):ae K 108 [a0] U R:=bJ Tryz.f108 Zi h
theorem QC (h:QB a0 R U):ae K 109 [a0] U R:=bJ Tryz.f109 Zj h
theorem QE (h:QD a0 R U):ae K 110 [a0] U R:=bJ Tryz.f110 Zk h
theorem QG (h:QF a0 a1 R U):ae K 121 [a0,a1] U R:=bJ Tryz.f121 Zl h
theorem QI (h:QH a0 a1 a2 R U):ae K 122 [a0,a1,a2] U R:=bJ Tryz.f122 Zm h
theorem QK (h:QJ a0 a1 R U):ae K 123 [a0,a1] U R:=bJ Tryz.f123 Zn h
theorem QM (h:QL a0 R U):ae K 124 [a0] U R:=bJ Tryz.f124 Zo h
theorem QO (h:QN a0 a1 R U):ae K 125 [a0,a1] U R:=bJ Tryz.f125 Zp h
theorem QR (h:QP a0 R U):ae K 126 [a0] U R:=bJ Tryz.f126 Zq h
theorem QT (h:QS a0 a1 a2 R U):ae K 131 [a0,a1,a2] U R:=bJ Tryz.f131 Zr h
theorem QV (h:QU a0 a1 R U):ae K 132 [a0,a1] U R:=bJ Tryz.f132 Zs h
theorem QX (h:QW a0 a1 R U):ae K 133 [a0,a1] U R:=bJ Tryz.f133 Zt h
theorem QZ (h:QY a0 R U):ae K 146 [a0] U R:=bJ Tryz.f146 Zu h
theorem Q1 (h:Q0 a0 a1 a2 R U):ae K 147 [a0,a1,a2] U R:=bJ Tryz.f147 Zv h
theorem Q2 (h:abH a0 a1 R U):ae K 148 [a0,a1] U R:=bJ Tryz.f148 Zw h
theorem Q4 (h:Q3 a0 R U):ae K 149 [a0] U R:=bJ Tryz.f149 Zx h
theorem Q6 (h:Q5 a0 R U):ae K 150 [a0] U R:=bJ Tryz.f150 Zy h
theorem Q7 (h:abI a0 a1 R U):ae K 151 [a0,a1] U R:=bJ Tryz.f151 Zz h
theorem Q9 (h:Q8 a0 R U):ae K 152 [a0] U R:=bJ Tryz.f152 ZA h
theorem US (h:WU a0 R U):ae K 30 [a0] U R:=bJ Tryz.f30 acI h
theorem UT (h:WV a0 R U):ae K 33 [a0] U R:=bJ Tryz.f33 acJ h
theorem UU (h:WW a0 R U):ae K 36 [a0] U R:=bJ Tryz.f36 acK h
theorem UW (h:WX a0 R U):ae K 40 [a0] U R:=bJ Tryz.f40 acL h
theorem UX (h:WY a0 a1 R U):ae K 47 [a0,a1] U R:=bJ Tryz.f47 acM h
theorem UY (h:WZ a0 R U):ae K 49 [a0] U R:=bJ Tryz.f49 acN h
theorem YL (h:abP a0 R U):ae K 8 [a0] U R:=bJ Tryz.f8 aeQ h
theorem UM (h:WN a0 R U):ae K 18 [a0] U R:=bJ Tryz.f18 acC h
theorem UN (h:WO a0 a1 R U):ae K 22 [a0,a1] U R:=bJ Tryz.f22 acD h
theorem UO (h:WQ a0 R U):ae K 24 [a0] U R:=bJ Tryz.f24 acE h
theorem UP (h:WR a0 R U):ae K 25 [a0] U R:=bJ Tryz.f25 acF h
theorem UQ (h:WS a0 R U):ae K 26 [a0] U R:=bJ Tryz.f26 acG h
theorem UR (h:WT a0 a1 R U):ae K 28 [a0,a1] U R:=bJ Tryz.f28 acH h
end
end Go.Rip
