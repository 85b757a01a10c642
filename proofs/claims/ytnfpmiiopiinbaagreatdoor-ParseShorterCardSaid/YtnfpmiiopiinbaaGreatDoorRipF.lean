/- Lemmas for the proof: no conditions. -/
import Derived.Test.YtnfpmiiopiinbaaGreatDoorRipZz
import Derived.Test.YtnfpmiiopiinbaaGreatDoorRipD
set_option linter.unusedVariables false
set_option linter.unusedSimpArgs false
set_option linter.loopingSimpArgs false
set_option maxRecDepth 100000
namespace Go.Rip
open Go.Proofs
def ac5:An:=ai (ai (bm (ai (.cd (ai .z) .z)) (ai .z)))
def ac6:An:=ai (ai (bm (ai (.cd (ai (ai (ai (ai (ai .z))))) .z)) (ai (.sq (some [0,3]) (ai (.cd cR cR)) (ai (ai (.sq (some [0,3]) (ai (.cd cR .z)) (ai (ai (ai (ai (ai (ai (ai .z))))))))))))))
def ac7:An:=ai (ai (ai (bm (bm (.rg [] [69] none) (.cd (ai .z) .z)) (ai .z))))
def ac8:An:=ai (ai .z)
def ac9:An:=ai (ai (bm (.bk (ai (.cd (ai .z) (ai (.cd (ai .z) .z))))) (bm (ai (ai (.cd (ai (ai .z)) .z))) (ai .z))))
def ada:An:=ai (ai .z)
def adb:An:=ai (bm (ai (.cd (bm (.rg [] [] (some ⟨[(true,0),(true,1),(true,2),(false,3),(true,4)],[⟨524288,4,0⟩,⟨1048576,0,0⟩,⟨2097152,1572864,3⟩,⟨4194304,2097152,4⟩,⟨64,4194304,15⟩]⟩)) (ai (ai .z))) .z)) (ai (bm (ai (.bk (.rf cR (.bk (ai (bm (ai (.cd (ai .z) .z)) cR)))))) (bm (ai (.cd (ai .z) .z)) (ai .z)))))
def ade:An:=ai (bm (bm (.rg [] [] (some ⟨[(true,0),(true,1),(true,2),(true,3),(true,4),(true,5),(true,6),(true,7),(true,8),(true,9),(true,10),(true,11),(true,12),(true,13),(true,14),(true,15),(true,16),(true,17),(true,18),(true,19),(true,20),(true,21),(true,22),(true,23),(true,24),(true,25),(true,26)],[⟨32,2,0⟩,⟨64,32,1⟩,⟨128,64,2⟩,⟨256,128,4⟩,⟨512,256,8⟩,⟨1024,512,16⟩,⟨2048,1026,32⟩,⟨4096,3072,96⟩,⟨8192,5120,160⟩,⟨16384,9216,288⟩,⟨32768,17408,544⟩,⟨65536,33792,1056⟩,⟨131072,66560,2080⟩,⟨262144,132096,4128⟩,⟨524288,262144,8224⟩,⟨1048576,524290,16384⟩,⟨2097152,1572864,49152⟩,⟨4194304,2621440,81920⟩,⟨8388608,4718592,147456⟩,⟨16777216,8912896,278528⟩,⟨33554432,17301504,540672⟩,⟨67108864,524290,16384⟩,⟨134217728,67633152,2113536⟩,⟨268435456,134742016,4210688⟩,⟨536870912,268959744,8404992⟩,⟨1073741824,570949632,17842176⟩,⟨2147483648,1074266112,33570816⟩]⟩)) (.cd (ai .z) .z)) (ai (bm (ai (.bk (.lp [1,3,36,37] (ai (bm (.cd .z .z) (bm (.bk (ai (ai (.cd (ai .z) .z)))) cR)))))) (ai .z))))
def adf:An:=bm (.rg [1,2] [] none) (bm (.rg [3] [] none) (bm (bm (.rg [7,8,9,10] [] none) (.bk (.lp [1,2,3,8,9,10] (bm (.rg [11] [] none) (bm (.cd .z .z) (bm (.bk (bm (.rg [4,5,12,13,14] [] none) (bm (.rg [3,15,16,17] [] none) (bm (bm (.rg [18,19,20] [] none) (.cd (bm (.rg [2] [] none) .z) .z)) (.rg [3,21,22,23,24,25,26,27] [] none))))) (.rg [10,28] [] none))))))) (bm (.rg [6] [] none) (bm (bm (.rg [29,30,31] [] none) (.bk (.rf .z (.bk (.rg [33,34] [] none))))) (bm (.rg [2,35,36] [] none) .z)))))
def adg:An:=ai (bm (ai (.cd (ai .z) .z)) (bm (ai (.bk (.lp [0,9,10] (ai (bm (.cd .z .z) (bm (.bk (ai (ai (.cd (ai .z) .z)))) cR)))))) (ai .z)))
def adh:An:=ai (ai .z)
def adi:An:=ai (ai .z)
def adj:An:=ai (ai (bm (.bk (ai (.cd (ai .z) (ai (.cd (ai .z) (ai (.cd (ai .z) (ai (.cd (ai .z) (ai (.cd (ai .z) .z))))))))))) (ai .z)))
def adk:An:=ai (bm (.rg [] [] (some ⟨[(true,0),(true,1),(true,2),(true,3),(true,4),(true,5),(true,6),(true,7),(true,8),(false,9),(false,10)],[⟨64,8,0⟩,⟨128,4,0⟩,⟨256,128,2⟩,⟨512,256,4⟩,⟨1024,8,0⟩,⟨2048,1536,24⟩,⟨4096,2048,32⟩,⟨8192,4096,64⟩,⟨16384,8256,129⟩,⟨32,0,0⟩,⟨0,16416,1023⟩]⟩)) (ai .z))
def adl:An:=ai (bm (ai (.cd (ai .z) .z)) (bm (ai (.bk (.lp [8,9,10] (ai (bm (.cd .z .z) (bm (.bk (ai (ai (.cd (ai .z) .z)))) cR)))))) (ai .z)))
def adm:An:=ai (ai .z)
def Zt:An:=ai (bm (ai (.cd (ai .z) .z)) (ai (ai .z)))
def Zu:An:=ai (ai .z)
def Zv:An:=ai (.cd cR .z)
def Zw:An:=ai (ai (ai .z))
def Zx:An:=ai (bm (ai (.cd (ai .z) .z)) (ai (ai (ai (ai (ai (ai .z)))))))
def Zy:An:=ai (ai .z)
def Zz:An:=ai (.bk (.lp [0,1,2] (bm (ai (.cd .z .z)) (.bk cR))))
def ZA:An:=ai (ai (ai (ai (ai .z))))
def ZB:An:=ai (ai (.sq (some [3]) (.bk (ai (.cd cR (ai (.cd cR (ai (.cd cR (ai cR)))))))) (ai .z)))
def ZC:An:=ai (ai (ai (ai (.sq (some [3,4]) (.bk (.lp [0,3,4] (bm (ai (.cd .z .z)) (.bk (bm (ai (bm (.rg [] [61] none) (.cd .z .z))) (ai cR)))))) (bm (ai (.cd (ai .z) .z)) (ai .z))))))
def ZD:An:=bm (.rg [2] [] none) (bm (.rg [3,6,7,8,9,10] [] none) (bm (bm (.rg [11,12,13,14,15,16] [] none) (.bk (.lp [3,14,15,16] (bm (.rg [17] [] none) (bm (.cd .z .z) (bm (.bk (bm (.rg [5,18,19] [] none) (.rg [3,20,21,22,23] [] none))) (.rg [16,24] [] none))))))) (bm (.rg [25,26,27,28,29] [] none) (bm (.rg [2,30] [] none) .z))))
def ZE:An:=ai (bm (.rg [] [178] none) .z)
def ZF:An:=ai (ai .z)
def ZG:An:=ai (ai (bm (ai (.bk (.rf cR (.bk cR)))) (.bk (ai (.cd cR (ai (.cd cR (ai (.cd cR (ai (.cd cR (ai (.cd cR cR)))))))))))))
def ZH:An:=ai (bm (ai (ai (.cd (ai .z) .z))) (ai (bm (ai (.bk (.lp [0,5,13,14,15] (ai (bm (.cd .z .z) (bm (.bk (ai (.sq (some [0,5,7,13,14,15]) (bm (.rg [] [] (some ⟨[(true,0),(true,1),(true,2),(true,3),(true,4),(true,5),(true,6),(true,7),(true,8),(true,9),(true,10)],[⟨1048576,64,0⟩,⟨2097152,1048576,1⟩,⟨4194304,2097152,2⟩,⟨8388608,4194305,4⟩,⟨16777216,4194368,4⟩,⟨33554432,20971520,20⟩,⟨67108864,46137344,44⟩,⟨134217728,71303168,68⟩,⟨268435456,4194432,4⟩,⟨536870912,406847488,388⟩,⟨1073741824,541065216,516⟩]⟩)) (.cd cR .z)) cR))) cR)))))) (bm (ai (.cd (ai .z) .z)) (ai .z)))))
def ZI:An:=ai (ai (ai (ai .z)))
def ZJ:An:=ai (ai .z)
def ZK:An:=ai (ai (ai (bm (bm (.rg [] [122,208] none) (.cd (ai .z) .z)) (bm (bm (.rg [] [122] none) (.cd (ai .z) .z)) (ai (ai (bm (ai (.bk (.rf cR (.bk (bm (.rg [] [] (some ⟨[(true,0),(true,1),(true,2),(true,3),(true,4),(true,5),(true,6),(true,7),(true,8),(false,9),(false,10)],[⟨19807040628566084398385987584,1024,0⟩,⟨39614081257132168796771975168,8,0⟩,⟨79228162514264337593543950336,39614081257132168796771975168,2⟩,⟨158456325028528675187087900672,79228162514264337593543950336,4⟩,⟨316912650057057350374175801344,4096,0⟩,⟨633825300114114700748351602688,475368975085586025561263702016,24⟩,⟨1267650600228229401496703205376,633825300114114700748351602688,32⟩,⟨2535301200456458802993406410752,1267650600228229401496703205376,64⟩,⟨5070602400912917605986812821504,2535301200456458802993406410752,128⟩,⟨10141204801825835211973625643008,5090409441541483690385198809088,257⟩,⟨0,10141204801825835211973625644032,1023⟩]⟩)) (bm (bm (.rg [] [] (some ⟨[(true,0),(true,1),(true,2),(true,3),(true,4),(true,5),(true,6),(true,7),(true,8),(true,9),(true,10),(true,11),(true,12),(true,13),(true,14)],[⟨20282409603651670423947251286016,16,0⟩,⟨40564819207303340847894502572032,128,0⟩,⟨81129638414606681695789005144064,40564819207303340847894502572032,2⟩,⟨162259276829213363391578010288128,101412048018258352119736256430080,5⟩,⟨324518553658426726783156020576256,4096,0⟩,⟨649037107316853453566312041152512,486777830487640090174734030864384,24⟩,⟨1298074214633706907132624082305024,8,0⟩,⟨2596148429267413814265248164610048,1298074214633706907132624082305024,64⟩,⟨5192296858534827628530496329220096,2596148429267413814265248164610048,128⟩,⟨10384593717069655257060992658440192,4096,0⟩,⟨20769187434139310514121985316880384,15576890575604482885591488987660288,768⟩,⟨41538374868278621028243970633760768,20769187434139310514121985316880384,1024⟩,⟨83076749736557242056487941267521536,41538374868278621028243970633760768,2048⟩,⟨166153499473114484112975882535043072,83725786843874095510054253308674048,4128⟩,⟨332306998946228968225951765070086144,166153499473114484112975882535043072,8192⟩]⟩)) (.cd (ai .z) .z)) cR)))))) (ai .z))))))))
def ZL:An:=ai (ai (bm (ai (.cd (ai .z) .z)) (bm (ai (.bk (.lp [0,1,5,6] (bm (ai (.cd .z .z)) (.sq (some [0,1,5,6]) (.bk (ai (ai (.cd (ai cR) .z)))) cR))))) (ai (ai .z)))))
def ZM:An:=ai (ai .z)
def ZN:An:=ai (ai .z)
def ZO:An:=ai (.bk (.lp [0,1,2,4] (bm (ai (.cd .z .z)) (.bk (ai (.bk (.sq (some [0,1,2,4,14,24]) (ai (.cd .z cR)) (.cd cR (ai (.cd (ai (bm (ai (.cd .z .z)) cR)) (bm (ai (.cd .z .z)) cR)))))))))))
def ZP:An:=ai (ai .z)
def ZQ:An:=ai (bm (.bk (.lp [0,2] (bm (bm (.rg [] [151] none) (.cd .z .z)) (.bk cR)))) (ai .z))
def ZR:An:=ai (bm (ai (.bk (.lp [0,2,6,7] (ai (bm (.cd .z .z) (bm (.bk (ai (ai (.cd (ai .z) .z)))) cR)))))) (bm (bm (.rg [] [214] none) (.cd (ai .z) .z)) (ai .z)))
def ZS:An:=ai (ai .z)
def ZT:An:=ai (ai (bm (ai (.bk (.lp [0,3,6,7] (ai (bm (.cd .z .z) (bm (.bk (ai (bm (ai (.cd (ai .z) .z)) cR))) cR)))))) (bm (.bk (ai (.cd (ai .z) (ai (.cd (ai .z) .z))))) (ai .z))))
def ac2:An:=ai (bm (.bk (ai (.cd (ai .z) (ai (.cd (ai .z) (ai (.cd (ai .z) .z))))))) (ai .z))
def ac3:An:=ai (ai (bm (ai (.bk (.lp [0,3,4] (bm (ai (.cd .z .z)) (.sq (some [0,3,4]) (.bk (ai (.cd cR .z))) cR))))) (ai .z)))
def ac4:An:=ai (bm (ai (ai (.cd (ai .z) .z))) (ai (ai (bm (ai (.bk (.rf (ai cR) (.bk (bm (ai (.cd .z .z)) (ai (.sq (some [2,3,4,7,9,11,12]) (ai (.cd cR .z)) (bm (ai (.cd (ai .z) .z)) (ai cR))))))))) (ai .z)))))
def ae1:An:=ai (bm (ai (.cd (ai .z) .z)) (ai (bm (ai (.cd (ai .z) .z)) (ai (bm (ai (.cd (bm (.rg [] [17] none) .z) .z)) (ai (ai (bm (.rg [] [17,32] none) .z))))))))
def acY:An:=ai (ai (bm (ai (.cd (ai .z) .z)) (ai (bm (.bk (.lp [2,5,8] (bm (bm (.rg [] [] (some ⟨[(true,0),(true,1),(true,2),(true,3),(true,4),(true,5),(true,6),(true,7),(true,8),(true,9)],[⟨16777216,32,0⟩,⟨33554432,16777216,1⟩,⟨67108864,33554432,2⟩,⟨134217728,67108864,4⟩,⟨268435456,32,0⟩,⟨536870912,268435456,16⟩,⟨1073741824,536870912,32⟩,⟨2147483648,1073741824,64⟩,⟨4294967296,2147483648,128⟩,⟨8589934592,4429185024,264⟩]⟩)) (.cd .z .z)) (.bk (ai (bm (ai (.cd (ai .z) .z)) cR)))))) (ai (ai .z))))))
def acZ:An:=ai (ai .z)
def ac0:An:=bm (.rg [1,2] [] none) (bm (.rg [3,4,5,6] [] none) .z)
def ac1:An:=ai (ai .z)
section
variable (a0 a1 a2 a3 a4 a5 a6:AV) (R:cY->St->Prop) (U:St)
def Xn:Prop :=
 ae K 33 [a0] U (ag (fun v10 U =>
 (aX v10 0).wp K U (fun v11 U =>
 (aX v10 1).wp K U (fun v12 U =>
 (aX v10 2).wp K U (fun cz U =>
 (aw .neq aN true cz (.int .i64 0)).wp K U (fun cb U =>
 av cb (
 al R (.aH [.aW,v12,cz]) U) (
 (cE (some true) a0).wp K U (fun v20 U =>
 ae K 96 [] U (ag (fun v21 U =>
 ae K 97 [] U (ag (fun eo U =>
 (ek (some [(0,1),(1,1),(2,1),(3,1),(4,1)]) (some [.aq,.int .i64 0,.int .i64 0,.jO,.jO]) none [(0,v11),(2,v20),(3,v21),(4,eo)]).wp K U (fun eL U =>
 (fZ eL).wp K U (fun v24 U =>
 al R (.aH [v24,(.int .i64 0),(.int .i64 0)]) U) (aa R)) (aa R)) (aa R))) (aa R))) (aa R))) (aa R)) (aa R)) (aa R)) (aa R)) (aa R))
def Xo:Prop :=
 ae K 99 [a0,(.int .u8 2)] U (ag (fun v5 U =>
 ae K 100 [a0,(.str dI)] U (ag (fun v7 U =>
 av v7 (
 ae K 101 [a0] U (ag (fun v10 U =>
 (aV v5).wp K U (fun v11 U =>
 (af (some 0) v11).wp K U (fun v12 U =>
 (af (some 1) v12).wp K U (fun cz U =>
 (aI aE cz v10 U).wp K U (fun _ U =>
 ae K 102 [a0,(.str cW)] U (ag (fun cb U =>
 ae K 104 [a0] U (ag (fun cA U =>
 (ar (some (87,1)) (some [.aW]) 1 false [(0,cA)]).wp K U (fun de U =>
 ae K 103 [v5,de] U (ag (fun v20 U =>
 ae K 102 [a0,(.str cn)] U (ag (fun eo U =>
 al R v5 U) (aa R))) (aa R))) (aa R)) (aa R))) (aa R))) (aa R)) (aa R)) (aa R)) (aa R)) (aa R))) (
 (aV v5).wp K U (fun eV U =>
 (af (some 0) eV).wp K U (fun gm U =>
 (af (some 0) gm).wp K U (fun ef U =>
 (aI aE ef (.int .u8 4) U).wp K U (fun _ U =>
 jL 2 (fun v0 v3 U =>
 ae K 101 [v0] U (ag (fun gU U =>
 (aV v3).wp K U (fun l8 U =>
 (af (some 0) l8).wp K U (fun v40 U =>
 (af (some 1) v40).wp K U (fun j0 U =>
 (aI aE j0 gU U).wp K U (fun _ U =>
 ae K 102 [v0,(.str cB)] U (ag (fun jF U =>
 jL 2 (fun gZ uQ U =>
 ae K 102 [gZ,(.str cg)] U (ag (fun nO U =>
 ae K 102 [gZ,(.str cW)] U (ag (fun mE U =>
 ae K 108 [gZ] U (ag (fun v59 U =>
 (ar (some (87,1)) (some [.aW]) 1 false [(0,v59)]).wp K U (fun uR U =>
 ae K 103 [uQ,uR] U (ag (fun nX U =>
 ae K 102 [gZ,(.str gk)] U (ag (fun qi U =>
 ae K 109 [gZ] U (ag (fun uT U =>
 (ar (some (87,1)) (some [.aW]) 1 false [(0,uT)]).wp K U (fun tH U =>
 ae K 103 [uQ,tH] U (ag (fun xn U =>
 ae K 102 [gZ,(.str cn)] U (ag (fun v70 U =>
 al R uQ U) (aa R))) (aa R))) (aa R)) (aa R))) (aa R))) (aa R))) (aa R)) (aa R))) (aa R))) (aa R))) fun Qc =>
 (ar (some (9,1)) (some [.str []]) 1 false [(0,(.str cg))]).wp K U (fun oF U =>
 ae K 105 [v0,oF] U (ag (fun v46 U =>
 (ly .not v46).wp K U (fun nM U =>
 av nM (
 ae K 106 [v0,v3,(.func (.func 107) [v0] [])] U (ag (fun nN U =>
 Qc v0 v3 U) (aa R))) (
 Qc v0 v3 U)) (aa R)) (aa R))) (aa R)) (aa R))) (aa R)) (aa R)) (aa R)) (aa R)) (aa R))) fun j =>
 ae K 100 [a0,(.str fH)] U (ag (fun ep U =>
 av ep (
 (aV v5).wp K U (fun v31 U =>
 (af (some 0) v31).wp K U (fun fK U =>
 (af (some 0) fK).wp K U (fun fQ U =>
 (aI aE fQ (.int .u8 3) U).wp K U (fun _ U =>
 j a0 v5 U) (aa R)) (aa R)) (aa R)) (aa R)) (
 ae K 102 [a0,(.str dz)] U (ag (fun hY U =>
 j a0 v5 U) (aa R)))) (aa R))) (aa R)) (aa R)) (aa R)) (aa R))) (aa R))) (aa R))
def Xp:Prop :=
 (aC.db [.aq]).wp K U (fun v2 U =>
 (ek (some [(0,1),(1,1),(2,1),(3,1),(4,1),(5,1)]) (some [.int .u8 0,.str [],.int .i64 0,.int .i64 0,.int .i64 0,.int .i64 0]) none [(0,(.int .u8 1))]).wp K U (fun v6 U =>
 (ek (some [(0,6),(6,1)]) (some [.int .u8 0,.str [],.int .i64 0,.int .i64 0,.int .i64 0,.int .i64 0,.aq]) none [(0,v6),(1,a0)]).wp K U (fun v8 U =>
 (fZ v8).wp K U (fun v9 U =>
 ae K 110 [v9] U (ag (fun v11 U =>
 (ek (some [(0,1)]) (some [.aq]) none [(0,v11)]).wp K U (fun v12 U =>
 (aC.db [.aq]).wp K U (fun v5 U =>
 (aI (some (true,1)) v5 v12 U).wp K U (fun _ U =>
 (af (some 0) v5).wp K U (fun cz U =>
 (ak aE cz U).wp K U (fun cG U =>
 (cE (some false) cG).wp K U (fun cb U =>
 (aw .gtr aN true cb (.int .i64 900)).wp K U (fun cU U =>
 ao K (aL cU false) (ak (some (true,1)) v5 U) (fun cA =>
 ao K (aL cU false) (aC.enter 69 [cA]) (fun de =>
 (bM cU (.bool true) de).wp K U (fun v20 U =>
 av v20 (
 (ek (some [(0,1)]) (some [.aq]) none []).wp K U (fun v21 U =>
 (aI (some (true,1)) v2 v21 U).wp K U (fun _ U =>
 bF (some (true,1)) v2 U fun r0 =>
 al R (.aH [r0,(.int .i64 5)]) U) (aa R)) (aa R)) (
 (ak (some (true,1)) v5 U).wp K U (fun eo U =>
 (aI (some (true,1)) v2 eo U).wp K U (fun _ U =>
 bF (some (true,1)) v2 U fun po =>
 al R (.aH [po,(.int .i64 0)]) U) (aa R)) (aa R))) (aa R)))) (aa R)) (aa R)) (aa R)) (aa R)) (aa R)) (aa R)) (aa R)) (aa R))) (aa R)) (aa R)) (aa R)) (aa R)
def Xq:Prop :=
 (fZ a0).wp K U (fun v1 U =>
 (ak (some (true,3)) v1 U).wp K U (fun v3 U =>
 (ar (some (9,1)) (some [.str []]) 3 false [(0,(.str dI)),(1,(.str fH)),(2,(.str dz))]).wp K U (fun v4 U =>
 ae K 121 [v3,v4] U (ag (fun v5 U =>
 al R v5 U) (aa R))) (aa R)) (aa R)) (aa R)
def Xr:Prop :=
 (fZ a0).wp K U (fun v3 U =>
 (ak (some (true,1)) v3 U).wp K U (fun v9 U =>
 ae K 30 [v9] U (ag (fun v10 U =>
 (aw .neq aN true v10 (.int .i64 0)).wp K U (fun cz U =>
 av cz (
 al R (.aH [(.str w_),v10]) U) (
 (af (some 0) v3).wp K U (fun dM U =>
 (ak aE dM U).wp K U (fun cA U =>
 (cE (some false) cA).wp K U (fun de U =>
 (aw .sub aN true de (.int .i64 1)).wp K U (fun v20 U =>
 ae K 122 [(.int .i64 0),v20,a1] U (ag (fun eo U =>
 (ly .not eo).wp K U (fun eL U =>
 av eL (
 al R (.aH [(.str w_),(.int .i64 3)]) U) (
 (ak (some (true,1)) v3 U).wp K U (fun ef U =>
 (ek (some [(0,1)]) (some [.aq]) none [(0,ef)]).wp K U (fun v28 U =>
 (jk K.P a2 [v28]).wp K U (fun ep U =>
 (aX ep 0).wp K U (fun v30 U =>
 (aX ep 1).wp K U (fun v31 U =>
 (aw .neq aN true v31 (.int .i64 0)).wp K U (fun fQ U =>
 av fQ (
 al R (.aH [(.str w_),v31]) U) (
 al R (.aH [v30,(.int .i64 0)]) U)) (aa R)) (aa R)) (aa R)) (aa R)) (aa R)) (aa R))) (aa R)) (aa R))) (aa R)) (aa R)) (aa R)) (aa R))) (aa R)) (aa R))) (aa R)) (aa R)
def Xs:Prop :=
 (fZ a0).wp K U (fun v2 U =>
 (ak (some (true,1)) v2 U).wp K U (fun v5 U =>
 (ak aE a1 U).wp K U (fun v6 U =>
 ae K 64 [v5,v6] U (ag (fun v7 U =>
 (aX v7 0).wp K U (fun v8 U =>
 (aX v7 1).wp K U (fun v9 U =>
 al R (.aH [v8,v9]) U) (aa R)) (aa R)) (aa R))) (aa R)) (aa R)) (aa R)
def N9:Prop :=
 (fZ a0).wp K U (fun v2 U =>
 (aC.db [.str []]).wp K U (fun v4 U =>
 (aC.db [.int .i64 0]).wp K U (fun v5 U =>
 (af (some 0) v2).wp K U (fun v11 U =>
 (af (some 0) v11).wp K U (fun v12 U =>
 (ak aE v12 U).wp K U (fun cz U =>
 (aO (some (43,6)) none cz a1).wp K U (fun cb U =>
 (af (some 0) cb).wp K U (fun cU U =>
 (ak aE cU U).wp K U (fun dM U =>
 (aw .neq aN true dM (.int .u8 1)).wp K U (fun cA U =>
 av cA (
 (fun au:St =>
 aB K (ak (some (true,1)) v2 au) (fun de =>
 aB K (aC.enter 96 []) (fun v20 =>
 aB K (ek (some [(0,1),(1,1),(2,1)]) (some [.aq,.aq,.jO]) none [(0,de),(2,v20)]) (fun v21 =>
 (fZ v21).wp K U (fun eo U=>da ((eM v2++[])++[]) au U /\
 ae K 123 [eo,a1] U (ag (fun eV U =>
 (aV eo).wp K U (fun ef U =>
 (af (some 1) ef).wp K U (fun v28 U =>
 (ak aE v28 U).wp K U (fun ep U =>
 ae K 124 [ep] U (ag (fun v30 U =>
 (aX v30 0).wp K U (fun v31 U =>
 (aX v30 1).wp K U (fun fK U =>
 (aI aE v4 v31 U).wp K U (fun _ U =>
 (aI aE v5 fK U).wp K U (fun _ U =>
 bF aE v4 U fun r0 =>
 bF aE v5 U fun r1 =>
 al R (.aH [r0,r1]) U) (aa R)) (aa R)) (aa R)) (aa R)) (aa R))) (aa R)) (aa R)) (aa R)) (aa R))) (aa R))))) U) (
 (aC.new .box none (.tG 158 [.aW,.aq])).wp K U (fun v7 U =>
 (ak (some (true,1)) v2 U).wp K U (fun fQ U =>
 ae K 81 [fQ,a1] U (ag (fun hY U =>
 rF K 1 hY U (fun hZ q U =>
 q.Dm (fun U =>
 (ak (some (true,1)) v2 U).wp K U (fun gU U =>
 ae K 64 [gU,hZ] U (ag (fun v40 U =>
 (aX v40 0).wp K U (fun j0 U =>
 (aX v40 1).wp K U (fun lz U =>
 (aw .neq aN true lz (.int .i64 0)).wp K U (fun nL U =>
 av nL (
 (aI aE v4 (.str w_) U).wp K U (fun _ U =>
 (aI aE v5 lz U).wp K U (fun _ U =>
 q.r U) (fun _ _=>False)) (fun _ _=>False)) (
 (aw .add aN true j0 (.str rN)).wp K U (fun nM U =>
 ae K 125 [v7,nM] U (ag (fun rX U =>
 q.n U) (fun _ _=>False))) (fun _ _=>False))) (fun _ _=>False)) (fun _ _=>False)) (fun _ _=>False)) (fun _ _=>False))) (fun _ _=>False)) U) (fun U =>
 ae K 126 [v7] U (ag (fun v49 U =>
 (aw .gtr aN true v49 (.int .i64 2500)).wp K U (fun ky U =>
 av ky (
 (aI aE v4 (.str w_) U).wp K U (fun _ U =>
 (aI aE v5 (.int .i64 5) U).wp K U (fun _ U =>
 bF aE v4 U fun po =>
 bF aE v5 U fun Js =>
 al R (.aH [po,Js]) U) (aa R)) (aa R)) (
 ae K 127 [v7] U (ag (fun v51 U =>
 (aI aE v4 v51 U).wp K U (fun _ U =>
 (aI aE v5 (.int .i64 0) U).wp K U (fun _ U =>
 bF aE v4 U fun sy =>
 bF aE v5 U fun Jt =>
 al R (.aH [sy,Jt]) U) (aa R)) (aa R)) (aa R)))) (aa R)) (aa R))) (fun i U =>
 HP (Nat.beq i 0) (
 ae K 126 [v7] U (ag (fun Om U =>
 (aw .gtr aN true Om (.int .i64 2500)).wp K U (fun AZ U =>
 av AZ (
 (aI aE v4 (.str w_) U).wp K U (fun _ U =>
 (aI aE v5 (.int .i64 5) U).wp K U (fun _ U =>
 bF aE v4 U fun Cj =>
 bF aE v5 U fun Vf =>
 al R (.aH [Cj,Vf]) U) (aa R)) (aa R)) (
 ae K 127 [v7] U (ag (fun aev U =>
 (aI aE v4 aev U).wp K U (fun _ U =>
 (aI aE v5 (.int .i64 0) U).wp K U (fun _ U =>
 bF aE v4 U fun Jq =>
 bF aE v5 U fun af1 =>
 al R (.aH [Jq,af1]) U) (aa R)) (aa R)) (aa R)))) (aa R)) (aa R))) (
 False)) (fun U =>
 bF aE v4 U fun Jr =>
 bF aE v5 U fun af2 =>
 al R (.aH [Jr,af2]) U) (fun x U=>(aa R) x U)) (aa R))) (aa R)) (aa R))) (aa R)) (aa R)) (aa R)) (aa R)) (aa R)) (aa R)) (aa R)) (aa R)) (aa R)) (aa R)
def Xt:Prop :=
 (fZ a0).wp K U (fun v1 U =>
 (fun au:St =>
 aB K (af (some 0) v1) (fun v5 =>
 aB K (af (some 0) v5) (fun v6 =>
 aB K (ak aE v6 au) (fun v7 =>
 aB K (cE (some false) v7) (fun v8 =>
 aB K (aw .eql aN true v8 (.int .i64 0)) (fun v9 =>
 ao K (aL v9 false) (af (some 0) v1) (fun v11 =>
 ao K (aL v9 false) (af (some 0) v11) (fun v12 =>
 ao K (aL v9 false) (ak aE v12 au) (fun cz =>
 ao K (aL v9 false) (aO (some (43,6)) none cz (.int .i64 0)) (fun cG =>
 ao K (aL v9 false) (af (some 0) cG) (fun cb =>
 ao K (aL v9 false) (ak aE cb au) (fun cU =>
 ao K (aL v9 false) (aw .neq aN true cU (.int .u8 1)) (fun dM =>
 aB K (bM v9 (.bool true) dM) (fun cA =>
 ao K (aL cA false) (af (some 0) v1) (fun v20 =>
 ao K (aL cA false) (af (some 0) v20) (fun v21 =>
 ao K (aL cA false) (ak aE v21 au) (fun eo =>
 ao K (aL cA false) (aO (some (43,6)) none eo (.int .i64 0)) (fun eL =>
 ao K (aL cA false) (af (some 5) eL) (fun v24 =>
 ao K (aL cA false) (ak aE v24 au) (fun eV =>
 ao K (aL cA false) (af (some 0) v1) (fun gm =>
 ao K (aL cA false) (af (some 0) gm) (fun ef =>
 ao K (aL cA false) (ak aE ef au) (fun v28 =>
 ao K (aL cA false) (cE (some false) v28) (fun ep =>
 ao K (aL cA false) (aw .neq aN false eV ep) (fun v30 =>
 aB K (bM cA (.bool true) v30) (fun v31 =>
 av v31 (
 al R (.bool false) U) (
 ae K 130 [] U (ag (fun fK U =>
 (af (some 0) v1).wp K U (fun fQ U =>
 (af (some 0) fQ).wp K U (fun iK U =>
 (ak aE iK U).wp K U (fun hY U =>
 (cE (some false) hY).wp K U (fun hZ U =>
 fy 4 [v1,fK,hZ,(.int .i64 0)] U fun lp ow v3 qp v37 U =>
 (aw .lss aN false v37 qp).wp K U (fun gU U =>
 av gU (
 (ak (some (true,1)) ow U).wp K U (fun v40 U =>
 ae K 131 [v40,v37,v3] U (ag (fun jF U =>
 (ly .not jF).wp K U (fun nL U =>
 av nL (
 al R (.bool false) U) (
 (aw .add aN true v37 (.int .i64 1)).wp K U (fun oF U =>
 lp ow v3 qp oF U) (aa R))) (aa R)) (aa R))) (aa R)) (
 al R (.bool true) U)) (aa R)) (aa R)) (aa R)) (aa R)) (aa R)) (aa R))))))))))))))))))))))))))))) U) (aa R)
def Xu:Prop :=
 (fZ a0).wp K U (fun v1 U =>
 (af (some 0) v1).wp K U (fun v7 U =>
 (ak aE v7 U).wp K U (fun v8 U =>
 (cE (some false) v8).wp K U (fun v9 U =>
 fy 6 [v1,(.bool false),.aq,v8,v9,(.int .i64 0)] U fun lp ow v2 v3 py ma v10 U =>
 (aw .lss aN false v10 ma).wp K U (fun v11 U =>
 av v11 (
 (aO (some (43,6)) none py v10).wp K U (fun cz U =>
 (ak (some (true,6)) cz U).wp K U (fun cG U =>
 (aC.db [.int .i64 0]).wp K U (fun v4 U =>
 (aC.db [.int .u8 0,.str [],.int .i64 0,.int .i64 0,.int .i64 0,.int .i64 0]).wp K U (fun v5 U =>
 (aI aE v4 v10 U).wp K U (fun _ U =>
 (aI (some (true,6)) v5 cG U).wp K U (fun _ U =>
 ae K 132 [v3,(.func (.func 133) [] [v4])] U (ag (fun dM U =>
 (cE (some false) dM).wp K U (fun de U =>
 (aw .gtr aN true de (.int .i64 60)).wp K U (fun v20 U =>
 av v20 (
 al R (.bool true) U) (
 (ak aE v4 U).wp K U (fun eo U =>
 (af (some 5) v5).wp K U (fun eL U =>
 (ak aE eL U).wp K U (fun v24 U =>
 (aw .add aN false eo v24).wp K U (fun eV U =>
 (ar (some (3,1)) (some [.int .i64 0]) 1 true [(0,eV)]).wp K U (fun gm U =>
 (eR (some (3,1)) true dM gm U).wp K U (fun ef U =>
 (aw .add aN true v10 (.int .i64 1)).wp K U (fun v28 U =>
 lp ow v2 ef py ma v28 U) (aa R)) (aa R)) (aa R)) (aa R)) (aa R)) (aa R)) (aa R))) (aa R)) (aa R)) (aa R))) (aa R)) (aa R)) (aa R)) (aa R)) (aa R)) (aa R)) (
 (aC.db [.int .i64 0]).wp K U (fun v6 U =>
 (aI aE v6 (.int .i64 0) U).wp K U (fun _ U =>
 (ak (some (true,1)) ow U).wp K U (fun ep U =>
 (ek (some [(0,1)]) (some [.aq]) none [(0,ep)]).wp K U (fun v30 U =>
 ae K 81 [v30,(.int .i64 0)] U (ag (fun v31 U =>
 rF K 1 v31 U (fun fK q U =>
 q.Dm (fun U =>
 (ak aE v6 U).wp K U (fun fQ U =>
 (aw .add aN true fQ (.int .i64 1)).wp K U (fun iK U =>
 (aI aE v6 iK U).wp K U (fun _ U =>
 q.n U) (fun _ _=>False)) (fun _ _=>False)) (fun _ _=>False)) U) (fun U =>
 (ak aE v6 U).wp K U (fun hY U =>
 (aw .gtr aN true hY (.int .i64 24)).wp K U (fun hZ U =>
 al R hZ U) (aa R)) (aa R)) (fun i U =>
 HP (Nat.beq i 2) (
 (ak aE v6 U).wp K U (fun DW U =>
 (aw .gtr aN true DW (.int .i64 24)).wp K U (fun qp U =>
 al R qp U) (aa R)) (aa R)) (
 False)) (fun U =>
 al R v2 U) (fun x U=>(aa R) x U)) (aa R))) (aa R)) (aa R)) (aa R)) (aa R))) (aa R)) (aa R)) (aa R)) (aa R)) (aa R)
def Xv:Prop :=
 (cE (some true) a0).wp K U (fun v6 U =>
 (aw .gtr aN true v6 (.int .i64 2500)).wp K U (fun v7 U =>
 av v7 (
 al R (.aH [(.int .i64 0),(.int .i64 5)]) U) (
 (cE (some true) a0).wp K U (fun v9 U =>
 fy 3 [a0,v9,(.int .i64 0)] U fun lp v0 ma v10 U =>
 (aw .lss aN false v10 ma).wp K U (fun v11 U =>
 av v11 (
 (hX true none none v0 v10).wp K U (fun cb U =>
 ae K 146 [cb] U (ag (fun cU U =>
 (ly .not cU).wp K U (fun dM U =>
 av dM (
 al R (.aH [v10,(.int .i64 2)]) U) (
 (aw .add aN true v10 (.int .i64 1)).wp K U (fun de U =>
 lp v0 ma de U) (aa R))) (aa R)) (aa R))) (aa R)) (
 al R (.aH [(.int .i64 0),(.int .i64 0)]) U)) (aa R)) (aa R))) (aa R)) (aa R)
def Xw (a0 a1:AV) (R:cY->St->Prop) (U:St):Prop :=
 (ak aE a1 U).wp K U (fun v4 U =>
 (ak aE a1 U).wp K U (fun v5 U =>
 (cE (some false) v5).wp K U (fun v6 U =>
 (aw .sub aN true v6 (.int .i64 1)).wp K U (fun v7 U =>
 (aO (some (51,3)) none v4 v7).wp K U (fun v8 U =>
 (af (some 1) v8).wp K U (fun v9 U =>
 (ak aE v9 U).wp K U (fun v10 U =>
 (cE (some true) v10).wp K U (fun v11 U =>
 al R v11 U) (aa R)) (aa R)) (aa R)) (aa R)) (aa R)) (aa R)) (aa R)) (aa R)
def Xx:Prop :=
 (fZ a0).wp K U (fun v2 U =>
 (fZ a1).wp K U (fun v3 U =>
 al R (.func (.func 147) [] [v2,v3]) U) (aa R)) (aa R)
def Xy:Prop :=
 (aC.db [.int .u8 0,.str [],.int .i64 0]).wp K U (fun v2 U =>
 ae K 149 [a0] U (ag (fun v7 U =>
 (fI true none a0 none (some v7)).wp K U (fun v8 U =>
 (aw .eql aN true v8 (.str w_)).wp K U (fun v11 U =>
 av v11 (
 ae K 150 [a0] U (ag (fun cz U =>
 (aX cz 0).wp K U (fun cG U =>
 (aX cz 1).wp K U (fun cb U =>
 (aI (some (true,3)) v2 cG U).wp K U (fun _ U =>
 bF (some (true,3)) v2 U fun r0 =>
 al R (.aH [r0,cb]) U) (aa R)) (aa R)) (aa R)) (aa R))) (
 (hX true none none v8 (.int .i64 0)).wp K U (fun cA U =>
 (ar (some (178,1)) (some [.int .i64 0]) 1 false [(0,(.int .i64 2))]).wp K U (fun de U =>
 ae K 151 [cA,de] U (ag (fun v20 U =>
 av v20 (
 (ek (some [(0,1),(1,1),(2,1)]) (some [.int .u8 0,.str [],.int .i64 0]) none [(0,(.int .u8 2)),(1,v8)]).wp K U (fun eo U =>
 ae K 152 [v8] U (ag (fun v24 U =>
 (aI (some (true,3)) v2 eo U).wp K U (fun _ U =>
 bF (some (true,3)) v2 U fun po =>
 al R (.aH [po,v24]) U) (aa R)) (aa R))) (aa R)) (
 (hX true none none v8 (.int .i64 0)).wp K U (fun ef U =>
 (ar (some (178,1)) (some [.int .i64 0]) 1 false [(0,(.int .i64 3))]).wp K U (fun v28 U =>
 ae K 151 [ef,v28] U (ag (fun ep U =>
 (ly .not ep).wp K U (fun v30 U =>
 av v30 (
 (ek (some [(0,1),(1,1),(2,1)]) (some [.int .u8 0,.str [],.int .i64 0]) none []).wp K U (fun v31 U =>
 (aI (some (true,3)) v2 v31 U).wp K U (fun _ U =>
 bF (some (true,3)) v2 U fun sy =>
 al R (.aH [sy,(.int .i64 4)]) U) (aa R)) (aa R)) (
 ae K 153 [] U (ag (fun fQ U =>
 (eB (some (.s,4)) (some (.bool false)) fQ v8 false U).wp K U (fun hY U =>
 av hY (
 (ek (some [(0,1),(1,1),(2,1)]) (some [.int .u8 0,.str [],.int .i64 0]) none [(0,(.int .u8 3)),(1,v8)]).wp K U (fun v37 U =>
 (aI (some (true,3)) v2 v37 U).wp K U (fun _ U =>
 bF (some (true,3)) v2 U fun Cj =>
 al R (.aH [Cj,(.int .i64 0)]) U) (aa R)) (aa R)) (
 (cE (some true) v8).wp K U (fun v40 U =>
 (aw .gtr aN true v40 (.int .i64 12)).wp K U (fun j0 U =>
 av j0 (
 (ek (some [(0,1),(1,1),(2,1)]) (some [.int .u8 0,.str [],.int .i64 0]) none []).wp K U (fun lz U =>
 (aI (some (true,3)) v2 lz U).wp K U (fun _ U =>
 bF (some (true,3)) v2 U fun Jq =>
 al R (.aH [Jq,(.int .i64 4)]) U) (aa R)) (aa R)) (
 (ek (some [(0,1),(1,1),(2,1)]) (some [.int .u8 0,.str [],.int .i64 0]) none [(0,(.int .u8 1)),(1,v8)]).wp K U (fun nL U =>
 (aI (some (true,3)) v2 nL U).wp K U (fun _ U =>
 bF (some (true,3)) v2 U fun Jr =>
 al R (.aH [Jr,(.int .i64 0)]) U) (aa R)) (aa R))) (aa R)) (aa R))) (aa R)) (aa R)))) (aa R)) (aa R))) (aa R)) (aa R))) (aa R))) (aa R)) (aa R))) (aa R)) (aa R)) (aa R))) (aa R)
def Xz:Prop :=
 (fZ a0).wp K U (fun v2 U =>
 (fZ a1).wp K U (fun v3 U =>
 (fun au:St =>
 aB K (ak aE v3 au) (fun v6 =>
 aB K (af (some 0) v2) (fun v7 =>
 aB K (af (some 0) v7) (fun v8 =>
 aB K (ak aE v8 au) (fun v9 =>
 aB K (ak aE v3 au) (fun v10 =>
 aB K (aO (some (43,6)) none v9 v10) (fun v11 =>
 aB K (af (some 5) v11) (fun v12 =>
 aB K (ak aE v12 au) (fun cz =>
 aB K (aw .add aN false v6 cz) (fun cG =>
 (aC.db [.int .i64 0]).wp K U (fun v5 U=>da ((eM v12++[])++((eM v3++[])++((eM v8++[])++((eM v3++[])++[])))) au U /\
 (aI aE v5 cG U).wp K U (fun _ U =>
 al R (.func (.func 155) [] [v3,v5,v2]) U) (aa R)) (aa R))))))))))) U) (aa R)) (aa R)
def XA:Prop :=
 (cE (some false) a0).wp K U (fun v6 U =>
 (aw .gtr aN true v6 (.int .i64 900)).wp K U (fun v7 U =>
 av v7 (
 al R (.int .i64 5) U) (
 (cE (some false) a0).wp K U (fun v9 U =>
 fy 3 [a0,v9,(.int .i64 0)] U fun lp v8 ma v10 U =>
 (aw .lss aN false v10 ma).wp K U (fun v11 U =>
 av v11 (
 (aO (some (51,3)) none v8 v10).wp K U (fun v12 U =>
 (ak (some (true,3)) v12 U).wp K U (fun cz U =>
 (aC.db [.int .u8 0,.str [],.int .i64 0]).wp K U (fun v4 U =>
 (aI (some (true,3)) v4 cz U).wp K U (fun _ U =>
 (ak (some (true,3)) v4 U).wp K U (fun cG U =>
 ae K 156 [cG] U (ag (fun cb U =>
 (ly .not cb).wp K U (fun cU U =>
 av cU (
 al R (.int .i64 2) U) (
 (aw .add aN true v10 (.int .i64 1)).wp K U (fun dM U =>
 lp v8 ma dM U) (aa R))) (aa R)) (aa R))) (aa R)) (aa R)) (aa R)) (aa R)) (aa R)) (
 al R (.int .i64 0) U)) (aa R)) (aa R))) (aa R)) (aa R)
def aeh:Prop :=
 ae K 164 [a0] U (ag (fun v7 U =>
 (ek (some [(0,1),(1,1),(2,1),(3,1),(4,1),(5,1)]) (some [.int .u8 0,.str [],.int .i64 0,.int .i64 0,.int .i64 0,.int .i64 0]) none [(0,a1),(4,v7)]).wp K U (fun v8 U =>
 (ek (some [(0,6),(6,1)]) (some [.int .u8 0,.str [],.int .i64 0,.int .i64 0,.int .i64 0,.int .i64 0,.aq]) none [(0,v8)]).wp K U (fun v9 U =>
 (fZ v9).wp K U (fun v10 U =>
 al R v10 U) (aa R)) (aa R)) (aa R)) (aa R))
def QX:Prop :=
 (ar (some (9,1)) (some [.str []]) 1 false [(0,a1)]).wp K U (fun v7 U =>
 ae K 105 [a0,v7] U (ag (fun v8 U =>
 (ly .not v8).wp K U (fun v9 U =>
 av v9 (
 al R (.bool false) U) (
 (aV a0).wp K U (fun v11 U =>
 (af (some 1) v11).wp K U (fun v12 U =>
 (ak aE v12 U).wp K U (fun cz U =>
 (aw .add aN true cz (.int .i64 1)).wp K U (fun cG U =>
 (aV a0).wp K U (fun cb U =>
 (af (some 1) cb).wp K U (fun cU U =>
 (aI aE cU cG U).wp K U (fun _ U =>
 al R (.bool true) U) (aa R)) (aa R)) (aa R)) (aa R)) (aa R)) (aa R)) (aa R))) (aa R)) (aa R))) (aa R)
def abY:Prop :=
 ae K 165 [a0,(.int .u8 1)] U (ag (fun v4 U =>
 al R v4 U) (aa R))
def abZ:Prop :=
 ae K 100 [a0,a1] U (ag (fun v6 U =>
 (ly .not v6).wp K U (fun v7 U =>
 av v7 (
 ae K 166 [a0] U (ag (fun v9 U =>
 al R (.aH []) U) (aa R))) (
 al R (.aH []) U)) (aa R)) (aa R))
def Q1:Prop :=
 (aV a0).wp K U (fun v7 U =>
 (af (some 6) v7).wp K U (fun v8 U =>
 (ak aE v8 U).wp K U (fun v9 U =>
 (eR (some (87,1)) false v9 a1 U).wp K U (fun v11 U =>
 (aV a0).wp K U (fun v12 U =>
 (af (some 6) v12).wp K U (fun cz U =>
 (aI aE cz v11 U).wp K U (fun _ U =>
 al R a0 U) (aa R)) (aa R)) (aa R)) (aa R)) (aa R)) (aa R)) (aa R)
def Q3:Prop :=
 (ar (some (9,1)) (some [.str []]) 1 false [(0,(.str cB))]).wp K U (fun v5 U =>
 ae K 105 [a0,v5] U (ag (fun v6 U =>
 (ly .not v6).wp K U (fun v7 U =>
 av v7 (
 ae K 108 [a0] U (ag (fun v9 U =>
 al R v9 U) (aa R))) (
 ae K 99 [a0,(.int .u8 8)] U (ag (fun v11 U =>
 ae K 102 [a0,(.str cB)] U (ag (fun cz U =>
 ae K 106 [a0,v11,(.func (.func 108) [a0] [])] U (ag (fun cA U =>
 ae K 102 [a0,(.str cg)] U (ag (fun v20 U =>
 ae K 102 [a0,(.str fF)] U (ag (fun eo U =>
 ae K 108 [a0] U (ag (fun eV U =>
 (ar (some (87,1)) (some [.aW]) 1 false [(0,eV)]).wp K U (fun gm U =>
 ae K 103 [v11,gm] U (ag (fun ef U =>
 al R ef U) (aa R))) (aa R)) (aa R))) (aa R))) (aa R))) (aa R))) (aa R))) (aa R)))) (aa R)) (aa R))) (aa R)
def ab0:Prop :=
 ae K 167 [a0,(.int .i64 0)] U (ag (fun v6 U =>
 ae K 121 [v6,a1] U (ag (fun v8 U =>
 al R v8 U) (aa R))) (aa R))
def Jz:Prop :=
 (jk K.P a2 []).wp K U (fun v8 U =>
 (ar (some (87,1)) (some [.aW]) 1 false [(0,v8)]).wp K U (fun v9 U =>
 ae K 103 [a1,v9] U (ag (fun v10 U =>
 fy 3 [a0,a1,a2] U fun lp v0 v1 v2 U =>
 ae K 100 [v0,(.str cw)] U (ag (fun v12 U =>
 av v12 (
 (jk K.P v2 []).wp K U (fun cb U =>
 (ar (some (87,1)) (some [.aW]) 1 false [(0,cb)]).wp K U (fun cU U =>
 ae K 103 [v1,cU] U (ag (fun dM U =>
 lp v0 v1 v2 U) (aa R))) (aa R)) (aa R)) (
 al R (.aH []) U)) (aa R))) (aa R))) (aa R)) (aa R)
def Q6:Prop :=
 ae K 99 [a0,(.int .u8 5)] U (ag (fun v5 U =>
 ae K 101 [a0] U (ag (fun v8 U =>
 (aV v5).wp K U (fun v9 U =>
 (af (some 0) v9).wp K U (fun v10 U =>
 (af (some 1) v10).wp K U (fun v11 U =>
 (aI aE v11 v8 U).wp K U (fun _ U =>
 ae K 102 [a0,(.str cW)] U (ag (fun cz U =>
 ae K 104 [a0] U (ag (fun cU U =>
 (ar (some (87,1)) (some [.aW]) 1 false [(0,cU)]).wp K U (fun dM U =>
 ae K 103 [v5,dM] U (ag (fun cA U =>
 al R cA U) (aa R))) (aa R)) (aa R))) (aa R))) (aa R)) (aa R)) (aa R)) (aa R)) (aa R))) (aa R))
def Q8:Prop :=
 ae K 99 [a0,(.int .u8 6)] U (ag (fun v5 U =>
 jL 1 (fun v3 U =>
 al R v3 U) fun j =>
 ae K 100 [a0,(.str pb)] U (ag (fun cU U =>
 av cU (
 (aV v5).wp K U (fun cA U =>
 (af (some 0) cA).wp K U (fun de U =>
 (af (some 2) de).wp K U (fun v20 U =>
 (aI aE v20 (.int .i64 1) U).wp K U (fun _ U =>
 j v5 U) (aa R)) (aa R)) (aa R)) (aa R)) (
 ae K 100 [a0,(.str kT)] U (ag (fun eL U =>
 av eL (
 (aV v5).wp K U (fun eV U =>
 (af (some 0) eV).wp K U (fun gm U =>
 (af (some 2) gm).wp K U (fun ef U =>
 (aI aE ef (.int .i64 2) U).wp K U (fun _ U =>
 j v5 U) (aa R)) (aa R)) (aa R)) (aa R)) (
 ae K 100 [a0,(.str jR)] U (ag (fun v30 U =>
 av v30 (
 ae K 168 [a0] U (ag (fun iK U =>
 (aV v5).wp K U (fun hY U =>
 (af (some 0) hY).wp K U (fun hZ U =>
 (af (some 0) hZ).wp K U (fun v37 U =>
 (aI aE v37 (.int .u8 7) U).wp K U (fun _ U =>
 (aV v5).wp K U (fun gU U =>
 (af (some 0) gU).wp K U (fun l8 U =>
 (af (some 2) l8).wp K U (fun v40 U =>
 (aI aE v40 iK U).wp K U (fun _ U =>
 j v5 U) (aa R)) (aa R)) (aa R)) (aa R)) (aa R)) (aa R)) (aa R)) (aa R)) (aa R))) (
 ae K 102 [a0,(.str gy)] U (ag (fun v7 U =>
 ae K 168 [a0] U (ag (fun v10 U =>
 (aV v5).wp K U (fun v11 U =>
 (af (some 0) v11).wp K U (fun v12 U =>
 (af (some 2) v12).wp K U (fun cz U =>
 (aI aE cz v10 U).wp K U (fun _ U =>
 j v5 U) (aa R)) (aa R)) (aa R)) (aa R)) (aa R))) (aa R)))) (aa R)))) (aa R)))) (aa R))) (aa R))
def Ra:Prop :=
 ae K 169 [a0] U (ag (fun v7 U =>
 ae K 99 [a0,(.int .u8 9)] U (ag (fun v9 U =>
 (ar (some (87,1)) (some [.aW]) 1 false [(0,v7)]).wp K U (fun v12 U =>
 ae K 103 [v9,v12] U (ag (fun cz U =>
 jL 2 (fun v3 v4 U =>
 (aV v4).wp K U (fun iK U =>
 (af (some 6) iK).wp K U (fun hY U =>
 (ak aE hY U).wp K U (fun hZ U =>
 (cE (some false) hZ).wp K U (fun v37 U =>
 (aw .eql aN true v37 (.int .i64 1)).wp K U (fun gU U =>
 av gU (
 al R v3 U) (
 al R v4 U)) (aa R)) (aa R)) (aa R)) (aa R)) (aa R)) fun j =>
 fy 3 [a0,v7,v9] U fun lp v0 uQ oX U =>
 (ar (some (9,1)) (some [.str []]) 1 false [(0,(.str cn))]).wp K U (fun cb U =>
 ae K 105 [v0,cb] U (ag (fun cU U =>
 av cU (
 ae K 167 [v0,(.int .i64 1)] U (ag (fun cA U =>
 (aC.db [.int .u8 0,.str [],.int .i64 0]).wp K U (fun v5 U =>
 (aI (some (true,3)) v5 cA U).wp K U (fun _ U =>
 (af (some 0) v5).wp K U (fun de U =>
 (ak aE de U).wp K U (fun v20 U =>
 (aw .eql aN true v20 (.int .u8 0)).wp K U (fun v21 U =>
 ao K (aL v21 false) (ak (some (true,3)) v5 U) (fun eL =>
 ao K (aL v21 false) (aC.enter 61 [eL]) (fun v24 =>
 (bM v21 (.bool true) v24).wp K U (fun eV U =>
 av eV (
 j uQ oX U) (
 ae K 102 [v0,(.str cn)] U (ag (fun ef U =>
 ae K 169 [v0] U (ag (fun v30 U =>
 (ar (some (87,1)) (some [.aW]) 1 false [(0,v30)]).wp K U (fun v31 U =>
 ae K 103 [oX,v31] U (ag (fun fK U =>
 lp v0 uQ oX U) (aa R))) (aa R)) (aa R))) (aa R)))) (aa R)))) (aa R)) (aa R)) (aa R)) (aa R)) (aa R)) (aa R))) (
 j uQ oX U)) (aa R))) (aa R)) (aa R))) (aa R)) (aa R))) (aa R))
def Rc:Prop :=
 (aV a0).wp K U (fun v7 U =>
 (af (some 0) v7).wp K U (fun v8 U =>
 (ak (some (true,6)) v8 U).wp K U (fun v9 U =>
 (ar (some (43,6)) (some [.int .u8 0,.str [],.int .i64 0,.int .i64 0,.int .i64 0,.int .i64 0]) 1 true [(0,v9)]).wp K U (fun v10 U =>
 (aV a0).wp K U (fun v12 U =>
 (af (some 6) v12).wp K U (fun cz U =>
 (ak aE cz U).wp K U (fun cG U =>
 (cE (some false) cG).wp K U (fun cb U =>
 fy 4 [v10,cG,cb,(.int .i64 0)] U fun lp v3 rM yA cU U =>
 (aw .lss aN false cU yA).wp K U (fun dM U =>
 av dM (
 (aO (some (87,1)) none rM cU).wp K U (fun cA U =>
 (ak aE cA U).wp K U (fun de U =>
 ae K 110 [de] U (ag (fun eo U =>
 (eR (some (43,6)) true v3 eo U).wp K U (fun eL U =>
 (aw .add aN true cU (.int .i64 1)).wp K U (fun v24 U =>
 lp eL rM yA v24 U) (aa R)) (aa R)) (aa R))) (aa R)) (aa R)) (
 (cE (some false) v3).wp K U (fun ef U =>
 (aO (some (43,6)) none v3 (.int .i64 0)).wp K U (fun v28 U =>
 (af (some 5) v28).wp K U (fun ep U =>
 (aI aE ep ef U).wp K U (fun _ U =>
 al R v3 U) (aa R)) (aa R)) (aa R)) (aa R))) (aa R)) (aa R)) (aa R)) (aa R)) (aa R)) (aa R)) (aa R)) (aa R)) (aa R)
def Rf:Prop :=
 (fZ a0).wp K U (fun v2 U =>
 (af (some 0) v2).wp K U (fun v5 U =>
 (ak aE v5 U).wp K U (fun v6 U =>
 (aw .eql aN true v6 (.int .u8 3)).wp K U (fun v7 U =>
 ao K (aL v7 false) (af (some 0) v2) (fun v9 =>
 ao K (aL v7 false) (ak aE v9 U) (fun v10 =>
 ao K (aL v7 false) (aw .eql aN true v10 (.int .u8 4)) (fun v11 =>
 (bM v7 (.bool true) v11).wp K U (fun v12 U =>
 ao K (aL v12 true) (aC.val a1) (fun cG =>
 ao K (aL v12 true) (af (some 1) v2) (fun cb =>
 ao K (aL v12 true) (ak aE cb U) (fun cU =>
 ao K (aL v12 true) (aC.enter 178 [cG,cU]) (fun dM =>
 (bM v12 dM (.bool false)).wp K U (fun cA U =>
 al R cA U) (aa R)))))) (aa R))))) (aa R)) (aa R)) (aa R)) (aa R)
def Ri:Prop :=
 (aw .geq aN false a2 a0).wp K U (fun v9 U =>
 ao K (aL v9 true) (aC.val a2) (fun v11 =>
 ao K (aL v9 true) (aC.val a1) (fun v12 =>
 ao K (aL v9 true) (aw .leq aN false v11 v12) (fun cz =>
 (bM v9 cz (.bool false)).wp K U (fun cG U =>
 al R cG U) (aa R))))) (aa R)
def Rk:Prop :=
 (aV a0).wp K U (fun v8 U =>
 (af (some 0) v8).wp K U (fun v9 U =>
 (af (some 0) v9).wp K U (fun v10 U =>
 (af (some 0) v10).wp K U (fun v11 U =>
 (ak aE v11 U).wp K U (fun v12 U =>
 (aO (some (43,6)) none v12 a1).wp K U (fun cG U =>
 (ak (some (true,6)) cG U).wp K U (fun cb U =>
 (aC.db [.int .u8 0,.str [],.int .i64 0,.int .i64 0,.int .i64 0,.int .i64 0]).wp K U (fun v4 U =>
 (aI (some (true,6)) v4 cb U).wp K U (fun _ U =>
 (aC.db [.aq]).wp K U (fun v5 U =>
 (aV a0).wp K U (fun dM U =>
 (af (some 0) dM).wp K U (fun cA U =>
 (ak (some (true,1)) cA U).wp K U (fun de U =>
 ae K 81 [de,a1] U (ag (fun v21 U =>
 rF K 1 v21 U (fun eo q U =>
 q.Dm (fun U =>
 (ak aE v5 U).wp K U (fun eL U =>
 (ar (some (3,1)) (some [.int .i64 0]) 1 false [(0,eo)]).wp K U (fun eV U =>
 (eR (some (3,1)) false eL eV U).wp K U (fun gm U =>
 (aI aE v5 gm U).wp K U (fun _ U =>
 q.n U) (fun _ _=>False)) (fun _ _=>False)) (fun _ _=>False)) (fun _ _=>False)) U) (fun U =>
 (af (some 0) v4).wp K U (fun fK U =>
 (ak aE fK U).wp K U (fun fQ U =>
 ae K 179 [fQ] U (ag (fun iK U =>
 av iK (
 (ak (some (true,6)) v4 U).wp K U (fun hZ U =>
 (ak aE v5 U).wp K U (fun v37 U =>
 ae K 180 [a0,hZ,v37] U (ag (fun gU U =>
 al R (.aH []) U) (aa R))) (aa R)) (aa R)) (
 (af (some 0) v4).wp K U (fun v40 U =>
 (ak aE v40 U).wp K U (fun j0 U =>
 ae K 181 [j0] U (ag (fun lz U =>
 av lz (
 (ak (some (true,6)) v4 U).wp K U (fun nL U =>
 (ak aE v5 U).wp K U (fun oF U =>
 ae K 182 [a0,nL,oF] U (ag (fun v46 U =>
 al R (.aH []) U) (aa R))) (aa R)) (aa R)) (
 (af (some 0) v4).wp K U (fun rX U =>
 (ak aE rX U).wp K U (fun v49 U =>
 (aw .geq aN true v49 (.int .u8 17)).wp K U (fun ky U =>
 ao K (aL ky true) (af (some 0) v4) (fun nN =>
 ao K (aL ky true) (ak aE nN U) (fun v53 =>
 ao K (aL ky true) (aw .leq aN true v53 (.int .u8 25)) (fun nO =>
 (bM ky nO (.bool false)).wp K U (fun oG U =>
 av oG (
 (ak (some (true,6)) v4 U).wp K U (fun q9 U =>
 (ak aE v5 U).wp K U (fun pa U =>
 ae K 183 [a0,q9,pa] U (ag (fun v59 U =>
 al R (.aH []) U) (aa R))) (aa R)) (aa R)) (
 (af (some 0) v4).wp K U (fun nX U =>
 (ak aE nX U).wp K U (fun uS U =>
 (aw .geq aN true uS (.int .u8 9)).wp K U (fun qi U =>
 ao K (aL qi true) (af (some 0) v4) (fun rY =>
 ao K (aL qi true) (ak aE rY U) (fun uT =>
 ao K (aL qi true) (aw .leq aN true uT (.int .u8 16)) (fun tH =>
 (bM qi tH (.bool false)).wp K U (fun xn U =>
 av xn (
 (ak (some (true,6)) v4 U).wp K U (fun v70 U =>
 (ak aE v5 U).wp K U (fun Ts U =>
 ae K 184 [a0,v70,Ts] U (ag (fun v72 U =>
 al R (.aH []) U) (aa R))) (aa R)) (aa R)) (
 (af (some 0) v4).wp K U (fun td U =>
 (ak aE td U).wp K U (fun v75 U =>
 ae K 185 [v75] U (ag (fun v76 U =>
 av v76 (
 (ak (some (true,6)) v4 U).wp K U (fun BO U =>
 (ak aE v5 U).wp K U (fun DX U =>
 ae K 186 [a0,BO,DX] U (ag (fun v80 U =>
 al R (.aH []) U) (aa R))) (aa R)) (aa R)) (
 (ak (some (true,6)) v4 U).wp K U (fun v28 U =>
 (ak aE v5 U).wp K U (fun ep U =>
 ae K 187 [a0,v28,ep] U (ag (fun v30 U =>
 al R (.aH []) U) (aa R))) (aa R)) (aa R))) (aa R))) (aa R)) (aa R))) (aa R))))) (aa R)) (aa R)) (aa R))) (aa R))))) (aa R)) (aa R)) (aa R))) (aa R))) (aa R)) (aa R))) (aa R))) (aa R)) (aa R)) (fun i U =>
 HP (Nat.beq i 0) (
 (af (some 0) v4).wp K U (fun aem U =>
 (ak aE aem U).wp K U (fun aen U =>
 ae K 179 [aen] U (ag (fun DV U =>
 av DV (
 (ak (some (true,6)) v4 U).wp K U (fun qp U =>
 (ak aE v5 U).wp K U (fun aep U =>
 ae K 180 [a0,qp,aep] U (ag (fun agP U =>
 al R (.aH []) U) (aa R))) (aa R)) (aa R)) (
 (af (some 0) v4).wp K U (fun aeq U =>
 (ak aE aeq U).wp K U (fun aer U =>
 ae K 181 [aer] U (ag (fun AY U =>
 av AY (
 (ak (some (true,6)) v4 U).wp K U (fun aes U =>
 (ak aE v5 U).wp K U (fun aet U =>
 ae K 182 [a0,aes,aet] U (ag (fun agQ U =>
 al R (.aH []) U) (aa R))) (aa R)) (aa R)) (
 (af (some 0) v4).wp K U (fun aeu U =>
 (ak aE aeu U).wp K U (fun Om U =>
 (aw .geq aN true Om (.int .u8 17)).wp K U (fun AZ U =>
 ao K (aL AZ true) (af (some 0) v4) (fun Oo =>
 ao K (aL AZ true) (ak aE Oo U) (fun aex =>
 ao K (aL AZ true) (aw .leq aN true aex (.int .u8 25)) (fun Oq =>
 (bM AZ Oq (.bool false)).wp K U (fun aey U =>
 av aey (
 (ak (some (true,6)) v4 U).wp K U (fun aez U =>
 (ak aE v5 U).wp K U (fun aeA U =>
 ae K 183 [a0,aez,aeA] U (ag (fun agR U =>
 al R (.aH []) U) (aa R))) (aa R)) (aa R)) (
 (af (some 0) v4).wp K U (fun aeB U =>
 (ak aE aeB U).wp K U (fun aeC U =>
 (aw .geq aN true aeC (.int .u8 9)).wp K U (fun Hc U =>
 ao K (aL Hc true) (af (some 0) v4) (fun aeD =>
 ao K (aL Hc true) (ak aE aeD U) (fun aeE =>
 ao K (aL Hc true) (aw .leq aN true aeE (.int .u8 16)) (fun aeF =>
 (bM Hc aeF (.bool false)).wp K U (fun aeG U =>
 av aeG (
 (ak (some (true,6)) v4 U).wp K U (fun aeH U =>
 (ak aE v5 U).wp K U (fun aeI U =>
 ae K 184 [a0,aeH,aeI] U (ag (fun agS U =>
 al R (.aH []) U) (aa R))) (aa R)) (aa R)) (
 (af (some 0) v4).wp K U (fun aeJ U =>
 (ak aE aeJ U).wp K U (fun aeK U =>
 ae K 185 [aeK] U (ag (fun aeL U =>
 av aeL (
 (ak (some (true,6)) v4 U).wp K U (fun aeM U =>
 (ak aE v5 U).wp K U (fun aeN U =>
 ae K 186 [a0,aeM,aeN] U (ag (fun agT U =>
 al R (.aH []) U) (aa R))) (aa R)) (aa R)) (
 (ak (some (true,6)) v4 U).wp K U (fun aek U =>
 (ak aE v5 U).wp K U (fun ael U =>
 ae K 187 [a0,aek,ael] U (ag (fun agO U =>
 al R (.aH []) U) (aa R))) (aa R)) (aa R))) (aa R))) (aa R)) (aa R))) (aa R))))) (aa R)) (aa R)) (aa R))) (aa R))))) (aa R)) (aa R)) (aa R))) (aa R))) (aa R)) (aa R))) (aa R))) (aa R)) (aa R)) (
 False)) (fun U =>
 al R (.aH []) U) (fun x U=>(aa R) x U)) (aa R))) (aa R)) (aa R)) (aa R)) (aa R)) (aa R)) (aa R)) (aa R)) (aa R)) (aa R)) (aa R)) (aa R)) (aa R)) (aa R)
def Rm:Prop :=
 ae K 93 [a0] U (ag (fun v9 U =>
 (aw .neq aN true v9 (.int .i64 0)).wp K U (fun v11 U =>
 av v11 (
 al R (.aH [(.str w_),v9]) U) (
 (aC.new .box none (.tG 158 [.aW,.aq])).wp K U (fun v5 U =>
 (cE (some false) a0).wp K U (fun cG U =>
 fy 5 [a0,v5,a0,cG,(.int .i64 0)] U fun lp v0 yB cz rM cb U =>
 (aw .lss aN false cb rM).wp K U (fun cU U =>
 av cU (
 (aO (some (51,3)) none cz cb).wp K U (fun cA U =>
 (ak (some (true,3)) cA U).wp K U (fun de U =>
 (aC.db [.int .u8 0,.str [],.int .i64 0]).wp K U (fun v7 U =>
 (aI (some (true,3)) v7 de U).wp K U (fun _ U =>
 jL 6 (fun gZ acE lQ vH aej yA U =>
 (af (some 1) lQ).wp K U (fun fK U =>
 (ak aE fK U).wp K U (fun fQ U =>
 ae K 125 [acE,fQ] U (ag (fun iK U =>
 (aw .add aN true yA (.int .i64 1)).wp K U (fun hY U =>
 lp gZ acE vH aej hY U) (aa R)) (aa R))) (aa R)) (aa R)) fun j =>
 (fun au:St =>
 aB K (aw .gtr aN true cb (.int .i64 0)) (fun v21 =>
 ao K (aL v21 true) (aC.val v0) (fun eL =>
 ao K (aL v21 true) (aC.val cb) (fun v24 =>
 ao K (aL v21 true) (aw .sub aN true v24 (.int .i64 1)) (fun eV =>
 ao K (aL v21 true) (aO (some (51,3)) none eL eV) (fun gm =>
 ao K (aL v21 true) (ak (some (true,3)) gm au) (fun ef =>
 ao K (aL v21 true) (ak (some (true,3)) v7 au) (fun v28 =>
 ao K (aL v21 true) (aC.enter 188 [ef,v28]) (fun ep =>
 aB K (bM v21 ep (.bool false)) (fun v30 =>
 av v30 (
 ae K 189 [yB,(.int .u8 32)] U (ag (fun v31 U =>
 j v0 yB v7 cz rM cb U) (aa R))) (
 j v0 yB v7 cz rM cb U))))))))))) U) (aa R)) (aa R)) (aa R)) (aa R)) (
 ae K 126 [yB] U (ag (fun hZ U =>
 (aw .gtr aN true hZ (.int .i64 2500)).wp K U (fun v37 U =>
 av v37 (
 al R (.aH [(.str w_),(.int .i64 5)]) U) (
 ae K 127 [yB] U (ag (fun gU U =>
 al R (.aH [gU,(.int .i64 0)]) U) (aa R)))) (aa R)) (aa R)))) (aa R)) (aa R)) (aa R))) (aa R)) (aa R))
def Rq:Prop :=
 ae K 190 [a0] U (ag (fun v7 U =>
 (aV a0).wp K U (fun v10 U =>
 (af (some 1) v10).wp K U (fun v11 U =>
 (ak aE v11 U).wp K U (fun v12 U =>
 (eR (some (5,1)) false v12 a1 U).wp K U (fun cG U =>
 (aV a0).wp K U (fun cb U =>
 (af (some 1) cb).wp K U (fun cU U =>
 (aI aE cU cG U).wp K U (fun _ U =>
 (cE (some true) a1).wp K U (fun cA U =>
 al R (.aH [cA,.dq]) U) (aa R)) (aa R)) (aa R)) (aa R)) (aa R)) (aa R)) (aa R)) (aa R)) (aa R))
def Rs:Prop :=
 (aV a0).wp K U (fun v4 U =>
 (af (some 1) v4).wp K U (fun v5 U =>
 (ak aE v5 U).wp K U (fun v6 U =>
 (cE (some false) v6).wp K U (fun v7 U =>
 al R v7 U) (aa R)) (aa R)) (aa R)) (aa R)
def Rv:Prop :=
 (fZ a0).wp K U (fun v3 U =>
 (fZ a1).wp K U (fun v4 U =>
 (aC.db [.bool false]).wp K U (fun v6 U =>
 (af (some 0) v3).wp K U (fun cz U =>
 (af (some 0) cz).wp K U (fun cG U =>
 (ak aE cG U).wp K U (fun cb U =>
 (ak aE v4 U).wp K U (fun cU U =>
 (aO (some (43,6)) none cb cU).wp K U (fun dM U =>
 (ak (some (true,6)) dM U).wp K U (fun cA U =>
 (aC.db [.int .u8 0,.str [],.int .i64 0,.int .i64 0,.int .i64 0,.int .i64 0]).wp K U (fun v7 U =>
 (aI (some (true,6)) v7 cA U).wp K U (fun _ U =>
 (af (some 0) v7).wp K U (fun v21 U =>
 (ak aE v21 U).wp K U (fun eo U =>
 (eB (some (.i,204)) (some (.agg [.bool false,.bool false,.bool false,.aq])) a2 eo true U).wp K U (fun eL U =>
 (aX eL 0).wp K U (fun v24 U =>
 (aX eL 1).wp K U (fun eV U =>
 (aC.db [.bool false,.bool false,.bool false,.aq]).wp K U (fun v8 U =>
 (aI (some (true,4)) v8 v24 U).wp K U (fun _ U =>
 (ly .not eV).wp K U (fun ef U =>
 ao K (aL ef false) (af (some 0) v3) (fun ep =>
 ao K (aL ef false) (af (some 0) ep) (fun v30 =>
 ao K (aL ef false) (ak aE v30 U) (fun v31 =>
 ao K (aL ef false) (cE (some false) v31) (fun fK =>
 ao K (aL ef false) (ak aE v4 U) (fun fQ =>
 ao K (aL ef false) (aw .sub aN false fK fQ) (fun iK =>
 ao K (aL ef false) (af (some 5) v7) (fun hY =>
 ao K (aL ef false) (ak aE hY U) (fun hZ =>
 ao K (aL ef false) (aC.enter 122 [(.int .i64 1),iK,hZ]) (fun v37 =>
 ao K (aL ef false) (ly .not v37) (fun gU =>
 (bM ef (.bool true) gU).wp K U (fun l8 U =>
 ao K (aL l8 false) (af (some 0) v8) (fun j0 =>
 ao K (aL l8 false) (ak aE j0 U) (fun lz =>
 ao K (aL l8 false) (af (some 1) v7) (fun jF =>
 ao K (aL l8 false) (ak aE jF U) (fun nL =>
 ao K (aL l8 false) (aw .neq aN true nL (.str w_)) (fun oF =>
 ao K (aL l8 false) (aw .neq (BT.mk true false false none false) false lz oF) (fun v46 =>
 (bM l8 (.bool true) v46).wp K U (fun nM U =>
 ao K (aL nM false) (af (some 0) v8) (fun v49 =>
 ao K (aL nM false) (ak aE v49 U) (fun ky =>
 ao K (aL nM false) (aC.val ky) (fun v51 =>
 ao K (aL v51 true) (af (some 1) v7) (fun nN =>
 ao K (aL v51 true) (ak aE nN U) (fun v53 =>
 ao K (aL v51 true) (aC.enter 208 [v53]) (fun nO =>
 ao K (aL v51 true) (ly .not nO) (fun oG =>
 ao K (aL nM false) (bM v51 oG (.bool false)) (fun mE =>
 (bM nM (.bool true) mE).wp K U (fun q9 U =>
 av q9 (
 (aI aE v6 (.bool false) U).wp K U (fun _ U =>
 bF aE v6 U fun r0 =>
 al R r0 U) (aa R)) (
 (af (some 2) v7).wp K U (fun pa U =>
 (ak aE pa U).wp K U (fun v59 U =>
 ae K 122 [(.int .i64 0),(.int .i64 1000000),v59] U (ag (fun uR U =>
 (ly .not uR).wp K U (fun nX U =>
 ao K (aL nX false) (af (some 3) v7) (fun qi =>
 ao K (aL nX false) (ak aE qi U) (fun tc =>
 ao K (aL nX false) (aC.enter 122 [(.int .i64 0),(.int .i64 1000000),tc]) (fun rY =>
 ao K (aL nX false) (ly .not rY) (fun uT =>
 (bM nX (.bool true) uT).wp K U (fun tH U =>
 ao K (aL tH false) (af (some 1) v8) (fun Al =>
 ao K (aL tH false) (ak aE Al U) (fun v70 =>
 ao K (aL tH false) (ly .not v70) (fun Ts =>
 ao K (aL tH false) (aC.val Ts) (fun v72 =>
 ao K (aL v72 true) (af (some 2) v7) (fun BM =>
 ao K (aL v72 true) (ak aE BM U) (fun td =>
 ao K (aL v72 true) (aw .neq aN true td (.int .i64 0)) (fun v75 =>
 ao K (aL tH false) (bM v72 v75 (.bool false)) (fun v76 =>
 (bM tH (.bool true) v76).wp K U (fun BN U =>
 ao K (aL BN false) (af (some 2) v8) (fun DX =>
 ao K (aL BN false) (ak aE DX U) (fun v80 =>
 ao K (aL BN false) (ly .not v80) (fun Mo =>
 ao K (aL BN false) (aC.val Mo) (fun GB =>
 ao K (aL GB true) (af (some 3) v7) (fun v83 =>
 ao K (aL GB true) (ak aE v83 U) (fun v84 =>
 ao K (aL GB true) (aw .neq aN true v84 (.int .i64 0)) (fun v85 =>
 ao K (aL BN false) (bM GB v85 (.bool false)) (fun v86 =>
 (bM BN (.bool true) v86).wp K U (fun v87 U =>
 av v87 (
 (aI aE v6 (.bool false) U).wp K U (fun _ U =>
 bF aE v6 U fun po =>
 al R po U) (aa R)) (
 (aC.db [.aq]).wp K U (fun v10 U =>
 (ak aE v4 U).wp K U (fun v88 U =>
 (aw .add aN true v88 (.int .i64 1)).wp K U (fun v89 U =>
 (aC.db [.int .i64 0]).wp K U (fun v11 U =>
 (aI aE v11 v89 U).wp K U (fun _ U =>
 (ak (some (true,1)) v3 U).wp K U (fun v90 U =>
 (ak aE v4 U).wp K U (fun v91 U =>
 ae K 81 [v90,v91] U (ag (fun v92 U =>
 rF K 1 v92 U (fun v93 q U =>
 q.Dm (fun U =>
 (fun au:St =>
 aB K (ak aE v10 au) (fun v94 =>
 aB K (af (some 0) v3) (fun v95 =>
 aB K (af (some 0) v95) (fun XS =>
 aB K (ak aE XS au) (fun v97 =>
 aB K (aO (some (43,6)) none v97 v93) (fun v99 =>
 aB K (af (some 0) v99) (fun acm =>
 aB K (ak aE acm au) (fun VW =>
 aB K (ar (some (5,1)) (some [.int .u8 0]) 1 false [(0,VW)]) (fun acn =>
 (eR (some (5,1)) false v94 acn U).wp K U (fun agf U=>da ((eM acm++[])++((eM XS++[])++((eM v10++[])++[]))) au U /\
 (aI aE v10 agf U).wp K U (fun _ U =>
 (fun qu:St =>
 aB K (ak aE v4 qu) (fun VX =>
 aB K (af (some 5) v7) (fun v105 =>
 aB K (ak aE v105 qu) (fun aco =>
 aB K (aw .add aN false VX aco) (fun v107 =>
 aB K (aw .sub aN false v107 v93) (fun v109 =>
 aB K (af (some 0) v3) (fun agi =>
 aB K (af (some 0) agi) (fun VY =>
 aB K (ak aE VY qu) (fun VZ =>
 aB K (aO (some (43,6)) none VZ v93) (fun agj =>
 aB K (af (some 5) agj) (fun agk =>
 aB K (ak aE agk qu) (fun V4 =>
 aB K (aC.enter 122 [(.int .i64 1),v109,V4]) (fun v117 =>
 aB K (ly .not v117) (fun agl =>
 av agl (
 (aI aE v6 (.bool false) U).wp K U (fun _ U =>
 q.r U) (fun _ _=>False)) (
 (af (some 0) v3).wp K U (fun agm U =>
 (af (some 0) agm).wp K U (fun agn U =>
 (ak aE agn U).wp K U (fun ago U =>
 (aO (some (43,6)) none ago v93).wp K U (fun v124 U =>
 (af (some 5) v124).wp K U (fun agp U =>
 (ak aE agp U).wp K U (fun agq U =>
 (aw .add aN false v93 agq).wp K U (fun v127 U =>
 (aI aE v11 v127 U).wp K U (fun _ U =>
 q.n U) (fun _ _=>False)) (fun _ _=>False)) (fun _ _=>False)) (fun _ _=>False)) (fun _ _=>False)) (fun _ _=>False)) (fun _ _=>False)) (fun _ _=>False)))))))))))))))) U) (fun _ _=>False)) (fun _ _=>False)))))))))) U) U) (fun U =>
 (ak aE v11 U).wp K U (fun agr U =>
 (ak aE v4 U).wp K U (fun ags U =>
 (af (some 5) v7).wp K U (fun v130 U =>
 (ak aE v130 U).wp K U (fun v131 U =>
 (aw .add aN false ags v131).wp K U (fun agt U =>
 (aw .eql aN false agr agt).wp K U (fun ET U =>
 ao K (aL ET true) (ak aE v10 U) (fun agu =>
 ao K (aL ET true) (af (some 3) v8) (fun agv =>
 ao K (aL ET true) (ak aE agv U) (fun agw =>
 av (aL ET true) (
 ae K 209 [agu,agw] U (ag (fun v138 U =>
 (bM ET v138 (.bool false)).wp K U (fun v139 U =>
 (aI aE v6 v139 U).wp K U (fun _ U =>
 bF aE v6 U fun sy =>
 al R sy U) (aa R)) (aa R)) (aa R))) (
 (bM ET (.aH []) (.bool false)).wp K U (fun acz U =>
 (aI aE v6 acz U).wp K U (fun _ U =>
 bF aE v6 U fun Cj =>
 al R Cj U) (aa R)) (aa R)))))) (aa R)) (aa R)) (aa R)) (aa R)) (aa R)) (aa R)) (fun i U =>
 HP (Nat.beq i 0) (
 (ak aE v11 U).wp K U (fun acp U =>
 (ak aE v4 U).wp K U (fun acq U =>
 (af (some 5) v7).wp K U (fun acr U =>
 (ak aE acr U).wp K U (fun acs U =>
 (aw .add aN false acq acs).wp K U (fun acu U =>
 (aw .eql aN false acp acu).wp K U (fun xm U =>
 ao K (aL xm true) (ak aE v10 U) (fun acv =>
 ao K (aL xm true) (af (some 3) v8) (fun acw =>
 ao K (aL xm true) (ak aE acw U) (fun acx =>
 av (aL xm true) (
 ae K 209 [acv,acx] U (ag (fun acy U =>
 (bM xm acy (.bool false)).wp K U (fun acA U =>
 (aI aE v6 acA U).wp K U (fun _ U =>
 bF aE v6 U fun Jq =>
 al R Jq U) (aa R)) (aa R)) (aa R))) (
 (bM xm (.aH []) (.bool false)).wp K U (fun acB U =>
 (aI aE v6 acB U).wp K U (fun _ U =>
 bF aE v6 U fun Jr =>
 al R Jr U) (aa R)) (aa R)))))) (aa R)) (aa R)) (aa R)) (aa R)) (aa R)) (aa R)) (
 False)) (fun U =>
 bF aE v6 U fun af0 =>
 al R af0 U) (fun x U=>(aa R) x U)) (aa R))) (aa R)) (aa R)) (aa R)) (aa R)) (aa R)) (aa R)) (aa R))) (aa R)))))))))) (aa R)))))))))) (aa R)))))) (aa R)) (aa R))) (aa R)) (aa R))) (aa R)))))))))) (aa R)))))))) (aa R)))))))))))) (aa R)) (aa R)) (aa R)) (aa R)) (aa R)) (aa R)) (aa R)) (aa R)) (aa R)) (aa R)) (aa R)) (aa R)) (aa R)) (aa R)) (aa R)) (aa R)) (aa R)) (aa R)) (aa R)
def Ry:Prop :=
 ae K 210 [a0,a1] U (ag (fun v10 U =>
 (aw .eql aN true v10 (.int .i64 (-1))).wp K U (fun v12 U =>
 av v12 (
 al R a0 U) (
 (aw .add aN true v10 (.int .i64 1)).wp K U (fun cb U =>
 fy 4 [a0,a1,v10,cb] U fun lp v0 v1 v5 v6 U =>
 (cE (some false) v0).wp K U (fun cA U =>
 (aw .lss aN false v6 cA).wp K U (fun de U =>
 av de (
 jL 4 (fun gZ ow yB px U =>
 (aw .add aN true px (.int .i64 1)).wp K U (fun v21 U =>
 lp gZ ow yB v21 U) (aa R)) fun j =>
 (aO (some (3,1)) none v0 v6).wp K U (fun v24 U =>
 (ak aE v24 U).wp K U (fun eV U =>
 (jk K.P v1 [eV]).wp K U (fun v28 U =>
 (ly .not v28).wp K U (fun ep U =>
 av ep (
 (aO (some (3,1)) none v0 v5).wp K U (fun fQ U =>
 (aI aE fQ eV U).wp K U (fun _ U =>
 (aw .add aN true v5 (.int .i64 1)).wp K U (fun hY U =>
 j v0 v1 hY v6 U) (aa R)) (aa R)) (aa R)) (
 j v0 v1 v5 v6 U)) (aa R)) (aa R)) (aa R)) (aa R)) (
 (fI false (some (3,1)) v0 (some v5) none).wp K U (fun gU U =>
 (CK (some (3,1)) (some [.int .i64 0]) gU U).wp K U (fun _ U =>
 (fI false (some (3,1)) v0 none (some v5)).wp K U (fun j0 U =>
 al R j0 U) (aa R)) (aa R)) (aa R))) (aa R)) (aa R)) (aa R))) (aa R)) (aa R))
def RA:Prop :=
 (ak aE a1 U).wp K U (fun v5 U =>
 (aw .leq aN false a0 v5).wp K U (fun v6 U =>
 al R v6 U) (aa R)) (aa R)
def RC:Prop :=
 (ar (some (178,1)) (some [.int .i64 0]) 1 false [(0,(.int .i64 0))]).wp K U (fun v4 U =>
 ae K 151 [a0,v4] U (ag (fun v5 U =>
 (ly .not v5).wp K U (fun v6 U =>
 al R v6 U) (aa R)) (aa R))) (aa R)
def RE:Prop :=
 fy 4 [a0,a1,a2,(.int .i64 0)] U fun lp v0 v1 v2 v4 U =>
 (ak aE v1 U).wp K U (fun v9 U =>
 (cE (some true) v9).wp K U (fun v10 U =>
 (aw .lss aN false v4 v10).wp K U (fun v11 U =>
 av v11 (
 (ak aE v1 U).wp K U (fun v12 U =>
 (hX true none none v12 v4).wp K U (fun cG U =>
 jL 6 (fun gZ ow lg oX rM v24 U =>
 av v24 (
 (aw .add aN true oX (.int .i64 1)).wp K U (fun v28 U =>
 lp gZ ow lg v28 U) (aa R)) (
 (aw .eql aN true rM (.int .u8 126)).wp K U (fun v30 U =>
 av v30 (
 (ak aE ow U).wp K U (fun fK U =>
 (fI true none fK (some oX) none).wp K U (fun iK U =>
 ae K 148 [iK,(.str rN)] U (ag (fun hY U =>
 (aX hY 0).wp K U (fun hZ U =>
 (aX hY 1).wp K U (fun v37 U =>
 (aX hY 2).wp K U (fun gU U =>
 (jk K.P gZ [oX,hZ]).wp K U (fun lz U =>
 (ly .not lz).wp K U (fun jF U =>
 av jF (
 al R (.aH []) U) (
 (cE (some true) hZ).wp K U (fun v46 U =>
 (aw .add aN false oX v46).wp K U (fun nM U =>
 lp gZ ow lg nM U) (aa R)) (aa R))) (aa R)) (aa R)) (aa R)) (aa R)) (aa R)) (aa R))) (aa R)) (aa R)) (
 (jk K.P gZ [oX,(.str w_)]).wp K U (fun dM U =>
 (ly .not dM).wp K U (fun cA U =>
 av cA (
 al R (.aH []) U) (
 (ak aE lg U).wp K U (fun v20 U =>
 (jk K.P v20 [oX]).wp K U (fun eo U =>
 (aw .add aN false oX eo).wp K U (fun eL U =>
 lp gZ ow lg eL U) (aa R)) (aa R)) (aa R))) (aa R)) (aa R))) (aa R))) fun j =>
 (aw .eql aN true cG (.int .u8 32)).wp K U (fun eV U =>
 av eV (
 j v0 v1 v2 v4 cG eV U) (
 (aw .eql aN true cG (.int .u8 10)).wp K U (fun gm U =>
 j v0 v1 v2 v4 cG gm U) (aa R))) (aa R)) (aa R)) (aa R)) (
 al R (.aH []) U)) (aa R)) (aa R)) (aa R)
def ab1:Prop :=
 ae K 212 [a0,a1] U (ag (fun v9 U =>
 (aX v9 0).wp K U (fun v10 U =>
 (aX v9 1).wp K U (fun v11 U =>
 (aX v9 2).wp K U (fun v12 U =>
 al R (.aH [v10,v11,v12]) U) (aa R)) (aa R)) (aa R)) (aa R))
def RH:Prop :=
 fy 2 [a0,(.int .i64 0)] U fun lp v0 v2 U =>
 (cE (some true) v0).wp K U (fun v5 U =>
 (aw .lss aN false v2 v5).wp K U (fun v6 U =>
 ao K (aL v6 true) (aC.val v0) (fun v8 =>
 ao K (aL v6 true) (aC.val v2) (fun v9 =>
 ao K (aL v6 true) (hX true none none v8 v9) (fun v10 =>
 ao K (aL v6 true) (ar (some (178,1)) (some [.int .i64 0]) 3 false [(0,(.int .i64 2)),(1,(.int .i64 3)),(2,(.int .i64 4))]) (fun v11 =>
 ao K (aL v6 true) (aC.enter 151 [v10,v11]) (fun v12 =>
 (bM v6 v12 (.bool false)).wp K U (fun cz U =>
 av cz (
 (aw .add aN true v2 (.int .i64 1)).wp K U (fun cb U =>
 lp v0 cb U) (aa R)) (
 al R v2 U)) (aa R))))))) (aa R)) (aa R)
def RJ:Prop :=
 (aC.db [.int .u8 0,.str [],.int .i64 0]).wp K U (fun v2 U =>
 (ek none (some [.str [],.str []]) (some (2,9,1)) [(0,(.str bL)),(1,(.str fF))]).wp K U (fun v6 U =>
 fy 4 [a0,v2,v6,(.int .i64 0)] U fun lp v0 lg px v7 U =>
 (aw .lss aN true v7 (.int .i64 2)).wp K U (fun v8 U =>
 av v8 (
 (hX false (some (2,9,1)) aE px v7).wp K U (fun v9 U =>
 ae K 213 [v0,v9] U (ag (fun v12 U =>
 av v12 (
 (ek (some [(0,1),(1,1),(2,1)]) (some [.int .u8 0,.str [],.int .i64 0]) none [(0,(.int .u8 4)),(1,v9)]).wp K U (fun cG U =>
 (aI (some (true,3)) lg cG U).wp K U (fun _ U =>
 bF (some (true,3)) lg U fun r0 =>
 al R (.aH [r0,(.int .i64 0)]) U) (aa R)) (aa R)) (
 (aw .add aN true v7 (.int .i64 1)).wp K U (fun cb U =>
 lp v0 lg px cb U) (aa R))) (aa R))) (aa R)) (
 (aw .eql aN true v0 (.str w_)).wp K U (fun dM U =>
 ao K (aL dM false) (aC.val v0) (fun de =>
 ao K (aL dM false) (hX true none none de (.int .i64 0)) (fun v20 =>
 ao K (aL dM false) (aC.enter 214 [(.str et),v20]) (fun v21 =>
 ao K (aL dM false) (aw .lss aN true v21 (.int .i64 0)) (fun eo =>
 (bM dM (.bool true) eo).wp K U (fun eL U =>
 av eL (
 (ek (some [(0,1),(1,1),(2,1)]) (some [.int .u8 0,.str [],.int .i64 0]) none []).wp K U (fun v24 U =>
 (aI (some (true,3)) lg v24 U).wp K U (fun _ U =>
 bF (some (true,3)) lg U fun po =>
 al R (.aH [po,(.int .i64 4)]) U) (aa R)) (aa R)) (
 (fI true none v0 none (some (.int .i64 1))).wp K U (fun gm U =>
 (ek (some [(0,1),(1,1),(2,1)]) (some [.int .u8 0,.str [],.int .i64 0]) none [(0,(.int .u8 4)),(1,gm)]).wp K U (fun ef U =>
 (aI (some (true,3)) lg ef U).wp K U (fun _ U =>
 bF (some (true,3)) lg U fun sy =>
 al R (.aH [sy,(.int .i64 0)]) U) (aa R)) (aa R)) (aa R))) (aa R)))))) (aa R))) (aa R)) (aa R)) (aa R)
def ab2:Prop :=
 ae K 216 [a0] U (ag (fun v7 U =>
 ae K 215 [a1,v7] U (ag (fun v8 U =>
 al R v8 U) (aa R))) (aa R))
def RN:Prop :=
 (cE (some true) a0).wp K U (fun v6 U =>
 fy 4 [a0,(.int .i64 0),v6,(.int .i64 0)] U fun lp v0 v3 px v7 U =>
 (aw .lss aN false v7 px).wp K U (fun v8 U =>
 av v8 (
 (hX true none none v0 v7).wp K U (fun v12 U =>
 (ar (some (178,1)) (some [.int .i64 0]) 1 false [(0,(.int .i64 2))]).wp K U (fun cz U =>
 ae K 151 [v12,cz] U (ag (fun cG U =>
 (ly .not cG).wp K U (fun cb U =>
 av cb (
 al R (.int .i64 4) U) (
 (aw .mul aN true (.int .i64 10) v3).wp K U (fun dM U =>
 (hX true none none v0 v7).wp K U (fun v20 U =>
 (aw .sub aN true v20 (.int .u8 48)).wp K U (fun v21 U =>
 (GV (some .i64) true false false v21).wp K U (fun eo U =>
 (aw .add aN false dM eo).wp K U (fun eL U =>
 (zJ eL (.int .i64 1000001)).wp K U (fun v24 U =>
 (aw .add aN true v7 (.int .i64 1)).wp K U (fun eV U =>
 lp v0 v24 px eV U) (aa R)) (aa R)) (aa R)) (aa R)) (aa R)) (aa R)) (aa R))) (aa R)) (aa R))) (aa R)) (aa R)) (
 (cE (some true) v0).wp K U (fun v28 U =>
 (aw .gtr aN true v28 (.int .i64 1)).wp K U (fun ep U =>
 ao K (aL ep true) (aC.val v0) (fun v31 =>
 ao K (aL ep true) (hX true none none v31 (.int .i64 0)) (fun fK =>
 ao K (aL ep true) (aw .eql aN true fK (.int .u8 48)) (fun fQ =>
 (bM ep fQ (.bool false)).wp K U (fun iK U =>
 av iK (
 al R (.int .i64 4) U) (
 (aw .gtr aN true v3 (.int .i64 1000000)).wp K U (fun v37 U =>
 av v37 (
 al R (.int .i64 3) U) (
 al R (.int .i64 0) U)) (aa R))) (aa R))))) (aa R)) (aa R))) (aa R)) (aa R)
def Xk:Prop :=
 (fZ a0).wp K U (fun v1 U =>
 (af (some 0) v1).wp K U (fun v4 U =>
 (ak aE v4 U).wp K U (fun v5 U =>
 (cE (some false) v5).wp K U (fun v6 U =>
 (aw .gtr aN true v6 (.int .i64 900)).wp K U (fun v7 U =>
 av v7 (
 al R (.int .i64 5) U) (
 (ak (some (true,1)) v1 U).wp K U (fun v9 U =>
 (ek (some [(0,1)]) (some [.aq]) none [(0,v9)]).wp K U (fun v10 U =>
 ae K 68 [v10] U (ag (fun v11 U =>
 (ly .not v11).wp K U (fun v12 U =>
 av v12 (
 al R (.int .i64 4) U) (
 (ak (some (true,1)) v1 U).wp K U (fun cG U =>
 ae K 69 [cG] U (ag (fun cb U =>
 av cb (
 al R (.int .i64 5) U) (
 al R (.int .i64 0) U)) (aa R))) (aa R))) (aa R)) (aa R))) (aa R)) (aa R))) (aa R)) (aa R)) (aa R)) (aa R)) (aa R)
def Xl:Prop :=
 fy 3 [a0,(.int .i64 0),(.int .i64 0)] U fun lp v0 v3 v4 U =>
 (cE (some true) v0).wp K U (fun v7 U =>
 (aw .lss aN false v4 v7).wp K U (fun v8 U =>
 av v8 (
 jL 3 (fun gZ uQ oX U =>
 (aw .add aN true oX (.int .i64 1)).wp K U (fun v10 U =>
 lp gZ uQ v10 U) (aa R)) fun j =>
 (hX true none none v0 v4).wp K U (fun cz U =>
 (aw .eql aN true cz (.int .u8 10)).wp K U (fun cG U =>
 av cG (
 (aw .add aN true v3 (.int .i64 1)).wp K U (fun cU U =>
 j v0 cU v4 U) (aa R)) (
 j v0 v3 v4 U)) (aa R)) (aa R)) (
 al R v3 U)) (aa R)) (aa R)
def Xm:Prop :=
 (fZ a0).wp K U (fun v1 U =>
 (aC.db [.aq]).wp K U (fun v2 U =>
 (aC.db [.int .i64 0]).wp K U (fun v3 U =>
 (aC.db [.int .i64 0]).wp K U (fun v4 U =>
 (ak aE v1 U).wp K U (fun cG U =>
 ae K 74 [cG] U (ag (fun cb U =>
 (aX cb 0).wp K U (fun cU U =>
 (aX cb 1).wp K U (fun dM U =>
 (aw .neq aN true dM (.int .i64 0)).wp K U (fun de U =>
 av de (
 (aI aE v2 .aq U).wp K U (fun _ U =>
 (aI aE v3 cU U).wp K U (fun _ U =>
 (aI aE v4 dM U).wp K U (fun _ U =>
 bF aE v2 U fun r0 =>
 bF aE v3 U fun r1 =>
 bF aE v4 U fun r2 =>
 al R (.aH [r0,r1,r2]) U) (aa R)) (aa R)) (aa R)) (
 (aC.db [.aq]).wp K U (fun v7 U =>
 (ak aE v1 U).wp K U (fun eL U =>
 ae K 76 [eL,(.func (.func 75) [] [v7])] U (ag (fun eV U =>
 rF K 2 eV U (fun gm ef q U =>
 q.Dm (fun U =>
 (aw .neq aN true ef (.str w_)).wp K U (fun ep U =>
 av ep (
 q.n U) (
 (ak aE v1 U).wp K U (fun v31 U =>
 (fI true none v31 (some gm) none).wp K U (fun fQ U =>
 ae K 77 [fQ] U (ag (fun iK U =>
 (aX iK 0).wp K U (fun hY U =>
 (aX iK 1).wp K U (fun hZ U =>
 (aC.db [.int .u8 0,.str [],.int .i64 0]).wp K U (fun v11 U =>
 (aI (some (true,3)) v11 hY U).wp K U (fun _ U =>
 jL 7 (fun lg uQ oX lQ v9 DT v12 U =>
 (aw .neq aN true v12 (.int .i64 0)).wp K U (fun oF U =>
 av oF (
 (aI aE lg .aq U).wp K U (fun _ U =>
 (aI aE uQ v9 U).wp K U (fun _ U =>
 (aI aE oX v12 U).wp K U (fun _ U =>
 q.r U) (fun _ _=>False)) (fun _ _=>False)) (fun _ _=>False)) (
 (af (some 2) DT).wp K U (fun v49 U =>
 (aI aE v49 v9 U).wp K U (fun _ U =>
 (ak aE lQ U).wp K U (fun ky U =>
 (ak (some (true,3)) DT U).wp K U (fun v51 U =>
 (ar (some (51,3)) (some [.int .u8 0,.str [],.int .i64 0]) 1 false [(0,v51)]).wp K U (fun nN U =>
 (eR (some (51,3)) false ky nN U).wp K U (fun v53 U =>
 (aI aE lQ v53 U).wp K U (fun _ U =>
 q.n U) (fun _ _=>False)) (fun _ _=>False)) (fun _ _=>False)) (fun _ _=>False)) (fun _ _=>False)) (fun _ _=>False)) (fun _ _=>False))) (fun _ _=>False)) fun j =>
 (aw .eql aN true hZ (.int .i64 0)).wp K U (fun gU U =>
 ao K (aL gU true) (ak aE v7 U) (fun v40 =>
 ao K (aL gU true) (cE (some false) v40) (fun j0 =>
 ao K (aL gU true) (aw .eql aN true j0 (.int .i64 900)) (fun lz =>
 (bM gU lz (.bool false)).wp K U (fun jF U =>
 av jF (
 j v2 v3 v4 v7 gm v11 (.int .i64 5) U) (
 j v2 v3 v4 v7 gm v11 hZ U)) (fun _ _=>False))))) (fun _ _=>False)) (fun _ _=>False)) (fun _ _=>False)) (fun _ _=>False)) (fun _ _=>False)) (fun _ _=>False))) (fun _ _=>False)) (fun _ _=>False))) (fun _ _=>False)) U) (fun U =>
 (ak aE v7 U).wp K U (fun nO U =>
 (aI aE v2 nO U).wp K U (fun _ U =>
 (aI aE v3 (.int .i64 0) U).wp K U (fun _ U =>
 (aI aE v4 (.int .i64 0) U).wp K U (fun _ U =>
 bF aE v2 U fun po =>
 bF aE v3 U fun Js =>
 bF aE v4 U fun af3 =>
 al R (.aH [po,Js,af3]) U) (aa R)) (aa R)) (aa R)) (aa R)) (fun i U =>
 HP (Nat.beq i 0) (
 (ak aE v7 U).wp K U (fun Oq U =>
 (aI aE v2 Oq U).wp K U (fun _ U =>
 (aI aE v3 (.int .i64 0) U).wp K U (fun _ U =>
 (aI aE v4 (.int .i64 0) U).wp K U (fun _ U =>
 bF aE v2 U fun sy =>
 bF aE v3 U fun Jt =>
 bF aE v4 U fun af4 =>
 al R (.aH [sy,Jt,af4]) U) (aa R)) (aa R)) (aa R)) (aa R)) (
 False)) (fun U =>
 bF aE v2 U fun Cj =>
 bF aE v3 U fun Vf =>
 bF aE v4 U fun af5 =>
 al R (.aH [Cj,Vf,af5]) U) (fun x U=>(aa R) x U)) (aa R))) (aa R)) (aa R))) (aa R)) (aa R)) (aa R)) (aa R))) (aa R)) (aa R)) (aa R)) (aa R)) (aa R)
def ab9:Prop :=
 (cE (some true) a0).wp K U (fun cG U =>
 (aw .gtr aN true cG (.int .i64 3000)).wp K U (fun cb U =>
 av cb (
 ae K 17 [] U (ag (fun cU U =>
 al R cU U) (aa R))) (
 ae K 18 [a0] U (ag (fun de U =>
 (aX de 0).wp K U (fun v20 U =>
 (aX de 1).wp K U (fun v21 U =>
 (aX de 2).wp K U (fun eo U =>
 (aC.db [.aq]).wp K U (fun v3 U =>
 (aI (some (true,1)) v3 v20 U).wp K U (fun _ U =>
 (aw .neq aN true eo (.int .i64 0)).wp K U (fun v24 U =>
 av v24 (
 ae K 17 [] U (ag (fun eV U =>
 al R eV U) (aa R))) (
 (ak (some (true,1)) v3 U).wp K U (fun ef U =>
 ae K 26 [ef] U (ag (fun v28 U =>
 ae K 25 [v28] U (ag (fun ep U =>
 (aX ep 0).wp K U (fun v30 U =>
 (aX ep 1).wp K U (fun v31 U =>
 (aw .eql aN true v31 (.int .i64 5)).wp K U (fun fQ U =>
 av fQ (
 (cE (some true) a0).wp K U (fun hY U =>
 (af (some 0) v3).wp K U (fun hZ U =>
 (ak aE hZ U).wp K U (fun v37 U =>
 (cE (some false) v37).wp K U (fun gU U =>
 (aw .add aN false hY gU).wp K U (fun l8 U =>
 (aw .gtr aN true l8 (.int .i64 2500)).wp K U (fun v40 U =>
 ao K (aL v40 true) (aC.enter 17 []) (fun lz =>
 (bM v40 lz (.bool false)).wp K U (fun jF U =>
 al R jF U) (aa R))) (aa R)) (aa R)) (aa R)) (aa R)) (aa R)) (aa R)) (
 ae K 18 [v30] U (ag (fun v46 U =>
 (aX v46 0).wp K U (fun nM U =>
 (aX v46 1).wp K U (fun rX U =>
 (aX v46 2).wp K U (fun v49 U =>
 (aC.db [.aq]).wp K U (fun v8 U =>
 (aI (some (true,1)) v8 nM U).wp K U (fun _ U =>
 (ak (some (true,1)) v8 U).wp K U (fun v51 U =>
 ae K 25 [v51] U (ag (fun nN U =>
 (aX nN 0).wp K U (fun v53 U =>
 (aX nN 1).wp K U (fun nO U =>
 (aw .eql aN true v31 (.int .i64 0)).wp K U (fun mE U =>
 ao K (aL mE true) (aC.val v30) (fun pa =>
 ao K (aL mE true) (cE (some true) pa) (fun v59 =>
 ao K (aL mE true) (aC.val v30) (fun uR =>
 ao K (aL mE true) (aC.enter 32 [uR]) (fun nX =>
 ao K (aL mE true) (aw .sub aN false v59 nX) (fun uS =>
 ao K (aL mE true) (aC.val a0) (fun qi =>
 ao K (aL mE true) (cE (some true) qi) (fun tc =>
 ao K (aL mE true) (aw .leq aN false uS tc) (fun rY =>
 (bM mE rY (.bool false)).wp K U (fun uT U =>
 ao K (aL uT true) (aC.val v49) (fun xn =>
 ao K (aL uT true) (aw .eql aN true xn (.int .i64 0)) (fun Al =>
 (bM uT Al (.bool false)).wp K U (fun v70 U =>
 ao K (aL v70 true) (aC.val nO) (fun v72 =>
 ao K (aL v70 true) (aw .eql aN true v72 (.int .i64 0)) (fun BM =>
 (bM v70 BM (.bool false)).wp K U (fun td U =>
 ao K (aL td true) (aC.val v30) (fun v76 =>
 ao K (aL td true) (aC.val v53) (fun BN =>
 ao K (aL td true) (aw .eql aN false v76 BN) (fun BO =>
 (bM td BO (.bool false)).wp K U (fun DX U =>
 ao K (aL DX true) (aC.enter 17 []) (fun Mo =>
 (bM DX Mo (.bool false)).wp K U (fun GB U =>
 al R GB U) (aa R))) (aa R))))) (aa R)))) (aa R)))) (aa R)))))))))) (aa R)) (aa R)) (aa R)) (aa R))) (aa R)) (aa R)) (aa R)) (aa R)) (aa R)) (aa R)) (aa R)))) (aa R)) (aa R)) (aa R)) (aa R))) (aa R))) (aa R))) (aa R)) (aa R)) (aa R)) (aa R)) (aa R)) (aa R)) (aa R)))) (aa R)) (aa R)
def Xg:Prop :=
 (aC.db [.aq]).wp K U (fun v2 U =>
 ae K 53 [a0] U (ag (fun cb U =>
 (aX cb 0).wp K U (fun cU U =>
 (aX cb 1).wp K U (fun dM U =>
 (aX cb 2).wp K U (fun cA U =>
 (aw .neq aN true cA (.int .i64 0)).wp K U (fun v20 U =>
 av v20 (
 (ek (some [(0,1)]) (some [.aq]) none []).wp K U (fun v21 U =>
 (aI (some (true,1)) v2 v21 U).wp K U (fun _ U =>
 bF (some (true,1)) v2 U fun r0 =>
 al R (.aH [r0,dM,cA]) U) (aa R)) (aa R)) (
 fy 3 [v2,cU,.aq] U fun lp lg v5 v8 U =>
 (fun au:St =>
 aB K (aV v5) (fun eV =>
 aB K (af (some 1) eV) (fun gm =>
 aB K (ak aE gm au) (fun ef =>
 aB K (aV v5) (fun ep =>
 aB K (af (some 0) ep) (fun v30 =>
 aB K (ak aE v30 au) (fun v31 =>
 aB K (cE (some false) v31) (fun fK =>
 aB K (aw .lss aN false ef fK) (fun fQ =>
 av fQ (
 ae K 54 [v5,(.func (.func 55) [v5] [])] U (ag (fun gU U =>
 (aX gU 0).wp K U (fun l8 U =>
 (aX gU 1).wp K U (fun v40 U =>
 (aX gU 2).wp K U (fun j0 U =>
 (ly .not j0).wp K U (fun jF U =>
 av jF (
 (ek (some [(0,1)]) (some [.aq]) none []).wp K U (fun nL U =>
 (aI (some (true,1)) lg nL U).wp K U (fun _ U =>
 bF (some (true,1)) lg U fun po =>
 al R (.aH [po,v40,(.int .i64 4)]) U) (aa R)) (aa R)) (
 (ar (some (87,1)) (some [.aW]) 1 false [(0,l8)]).wp K U (fun rX U =>
 (eR (some (87,1)) false v8 rX U).wp K U (fun v49 U =>
 lp lg v5 v49 U) (aa R)) (aa R))) (aa R)) (aa R)) (aa R)) (aa R)) (aa R))) (
 ae K 56 [v8] U (ag (fun nN U =>
 (aX nN 0).wp K U (fun v53 U =>
 (aX nN 1).wp K U (fun nO U =>
 (aC.db [.aq]).wp K U (fun v12 U =>
 (aI (some (true,1)) v12 v53 U).wp K U (fun _ U =>
 (ak (some (true,1)) v12 U).wp K U (fun oG U =>
 (aI (some (true,1)) lg oG U).wp K U (fun _ U =>
 bF (some (true,1)) lg U fun sy =>
 al R (.aH [sy,(.int .i64 0),nO]) U) (aa R)) (aa R)) (aa R)) (aa R)) (aa R)) (aa R)) (aa R)))))))))))) U)) (aa R)) (aa R)) (aa R)) (aa R)) (aa R))) (aa R)
def Xh:Prop :=
 (fZ a0).wp K U (fun v1 U =>
 (ak (some (true,1)) v1 U).wp K U (fun v4 U =>
 ae K 28 [v4,(.int .i64 0)] U (ag (fun v5 U =>
 (aX v5 0).wp K U (fun v6 U =>
 (aX v5 1).wp K U (fun v7 U =>
 al R (.aH [v6,v7]) U) (aa R)) (aa R)) (aa R))) (aa R)) (aa R)
def Xi:Prop :=
 (fZ a0).wp K U (fun v1 U =>
 (aC.db [.aq]).wp K U (fun v2 U =>
 (af (some 0) v1).wp K U (fun v3 U =>
 (ak aE v3 U).wp K U (fun v4 U =>
 (eR (some (43,6)) true .aq v4 U).wp K U (fun v5 U =>
 (ek (some [(0,1)]) (some [.aq]) none [(0,v5)]).wp K U (fun v6 U =>
 (aI (some (true,1)) v2 v6 U).wp K U (fun _ U =>
 bF (some (true,1)) v2 U fun r0 =>
 al R r0 U) (aa R)) (aa R)) (aa R)) (aa R)) (aa R)) (aa R)) (aa R)
def Xj:Prop :=
 (fZ a0).wp K U (fun v2 U =>
 (fZ a1).wp K U (fun v3 U =>
 (ak (some (true,1)) v2 U).wp K U (fun v6 U =>
 (ak aE v3 U).wp K U (fun v7 U =>
 ae K 62 [v6,v7,(.func (.func 63) [] [v3])] U (ag (fun v9 U =>
 (aX v9 0).wp K U (fun v10 U =>
 (aX v9 1).wp K U (fun v11 U =>
 al R (.aH [v10,v11]) U) (aa R)) (aa R)) (aa R))) (aa R)) (aa R)) (aa R)) (aa R)
end
section
variable {a0 a1 a2 a3 a4 a5 a6:AV} {R:cY->St->Prop} {U:St}
theorem Vp (h:Xn a0 R U):ae K 53 [a0] U R:=bR Tryz.f53 ac5 h
theorem Vq (h:Xo a0 R U):ae K 55 [a0] U R:=bR Tryz.f55 ac6 h
theorem Vr (h:Xp a0 R U):ae K 56 [a0] U R:=bR Tryz.f56 ac7 h
theorem Vs (h:Xq a0 R U):ae K 61 [a0] U R:=bR Tryz.f61 ac8 h
theorem Vt (h:Xr a0 a1 a2 R U):ae K 62 [a0,a1,a2] U R:=bR Tryz.f62 ac9 h
theorem Vu (h:Xs a0 a1 R U):ae K 63 [a0,a1] U R:=bR Tryz.f63 ada h
theorem JE (h:N9 a0 a1 R U):ae K 64 [a0,a1] U R:=bR Tryz.f64 adb h
theorem Vv (h:Xt a0 R U):ae K 68 [a0] U R:=bR Tryz.f68 ade h
theorem Vw (h:Xu a0 R U):ae K 69 [a0] U R:=bR Tryz.f69 adf h
theorem Vx (h:Xv a0 R U):ae K 74 [a0] U R:=bR Tryz.f74 adg h
theorem Vy (h:Xw a0 a1 R U):ae K 75 [a0,a1] U R:=bR Tryz.f75 adh h
theorem Vz (h:Xx a0 a1 R U):ae K 76 [a0,a1] U R:=bR Tryz.f76 adi h
theorem VA (h:Xy a0 R U):ae K 77 [a0] U R:=bR Tryz.f77 adj h
theorem VB (h:Xz a0 a1 R U):ae K 81 [a0,a1] U R:=bR Tryz.f81 adk h
theorem VC (h:XA a0 R U):ae K 93 [a0] U R:=bR Tryz.f93 adl h
theorem VD (h:aeh a0 a1 R U):ae K 99 [a0,a1] U R:=bR Tryz.f99 adm h
theorem QY (h:QX a0 a1 R U):ae K 100 [a0,a1] U R:=bR Tryz.f100 Zt h
theorem QZ (h:abY a0 R U):ae K 101 [a0] U R:=bR Tryz.f101 Zu h
theorem Q0 (h:abZ a0 a1 R U):ae K 102 [a0,a1] U R:=bR Tryz.f102 Zv h
theorem Q2 (h:Q1 a0 a1 R U):ae K 103 [a0,a1] U R:=bR Tryz.f103 Zw h
theorem Q4 (h:Q3 a0 R U):ae K 104 [a0] U R:=bR Tryz.f104 Zx h
theorem Q5 (h:ab0 a0 a1 R U):ae K 105 [a0,a1] U R:=bR Tryz.f105 Zy h
theorem Gl (h:Jz a0 a1 a2 R U):ae K 106 [a0,a1,a2] U R:=bR Tryz.f106 Zz h
theorem Q7 (h:Q6 a0 R U):ae K 107 [a0] U R:=bR Tryz.f107 ZA h
theorem Q9 (h:Q8 a0 R U):ae K 108 [a0] U R:=bR Tryz.f108 ZB h
theorem Rb (h:Ra a0 R U):ae K 109 [a0] U R:=bR Tryz.f109 ZC h
theorem Re (h:Rc a0 R U):ae K 110 [a0] U R:=bR Tryz.f110 ZD h
theorem Rh (h:Rf a0 a1 R U):ae K 121 [a0,a1] U R:=bR Tryz.f121 ZE h
theorem Rj (h:Ri a0 a1 a2 R U):ae K 122 [a0,a1,a2] U R:=bR Tryz.f122 ZF h
theorem Rl (h:Rk a0 a1 R U):ae K 123 [a0,a1] U R:=bR Tryz.f123 ZG h
theorem Rp (h:Rm a0 R U):ae K 124 [a0] U R:=bR Tryz.f124 ZH h
theorem Rr (h:Rq a0 a1 R U):ae K 125 [a0,a1] U R:=bR Tryz.f125 ZI h
theorem Ru (h:Rs a0 R U):ae K 126 [a0] U R:=bR Tryz.f126 ZJ h
theorem Rw (h:Rv a0 a1 a2 R U):ae K 131 [a0,a1,a2] U R:=bR Tryz.f131 ZK h
theorem Rz (h:Ry a0 a1 R U):ae K 132 [a0,a1] U R:=bR Tryz.f132 ZL h
theorem RB (h:RA a0 a1 R U):ae K 133 [a0,a1] U R:=bR Tryz.f133 ZM h
theorem RD (h:RC a0 R U):ae K 146 [a0] U R:=bR Tryz.f146 ZN h
theorem RF (h:RE a0 a1 a2 R U):ae K 147 [a0,a1,a2] U R:=bR Tryz.f147 ZO h
theorem RG (h:ab1 a0 a1 R U):ae K 148 [a0,a1] U R:=bR Tryz.f148 ZP h
theorem RI (h:RH a0 R U):ae K 149 [a0] U R:=bR Tryz.f149 ZQ h
theorem RL (h:RJ a0 R U):ae K 150 [a0] U R:=bR Tryz.f150 ZR h
theorem RM (h:ab2 a0 a1 R U):ae K 151 [a0,a1] U R:=bR Tryz.f151 ZS h
theorem RO (h:RN a0 R U):ae K 152 [a0] U R:=bR Tryz.f152 ZT h
theorem Vm (h:Xk a0 R U):ae K 30 [a0] U R:=bR Tryz.f30 ac2 h
theorem Vn (h:Xl a0 R U):ae K 32 [a0] U R:=bR Tryz.f32 ac3 h
theorem Vo (h:Xm a0 R U):ae K 33 [a0] U R:=bR Tryz.f33 ac4 h
theorem Y5 (h:ab9 a0 R U):ae K 6 [a0] U R:=bR Tryz.f6 ae1 h
theorem Vi (h:Xg a0 R U):ae K 18 [a0] U R:=bR Tryz.f18 acY h
theorem Vj (h:Xh a0 R U):ae K 25 [a0] U R:=bR Tryz.f25 acZ h
theorem Vk (h:Xi a0 R U):ae K 26 [a0] U R:=bR Tryz.f26 ac0 h
theorem Vl (h:Xj a0 a1 R U):ae K 28 [a0,a1] U R:=bR Tryz.f28 ac1 h
end
end Go.Rip
