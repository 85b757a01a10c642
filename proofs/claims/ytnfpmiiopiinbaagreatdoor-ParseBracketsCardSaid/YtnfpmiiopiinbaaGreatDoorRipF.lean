/- Lemmas for the proof: no conditions. -/
import Derived.Test.YtnfpmiiopiinbaaGreatDoorRipZz
import Derived.Test.YtnfpmiiopiinbaaGreatDoorRipD
set_option linter.unusedVariables false
set_option linter.unusedSimpArgs false
set_option linter.loopingSimpArgs false
set_option maxRecDepth 100000
namespace Go.Rip
open Go.Proofs
def agn:An:=aj (aj (a7 (aj (.cd (aj .z) .z)) (aj .z)))
def ago:An:=aj (aj (a7 (aj (.cd (aj (aj (aj (aj (aj .z))))) .z)) (aj (.sq (some [0,3]) (aj (.cd cW cW)) (aj (aj (.sq (some [0,3]) (aj (.cd cW .z)) (aj (aj (aj (aj (aj (aj (aj .z))))))))))))))
def agp:An:=aj (aj (aj (a7 (a7 (.rg [] [69] none) (.cd (aj .z) .z)) (aj .z))))
def agq:An:=aj (aj .z)
def agr:An:=aj (aj (a7 (.bk (aj (.cd (aj .z) (aj (.cd (aj .z) .z))))) (a7 (aj (aj (.cd (aj (aj .z)) .z))) (aj .z))))
def ags:An:=aj (aj .z)
def agt:An:=aj (a7 (aj (.cd (a7 (.rg [] [] (some ⟨[(true,0),(true,1),(true,2),(false,3),(true,4)],[⟨524288,4,0⟩,⟨1048576,0,0⟩,⟨2097152,1572864,3⟩,⟨4194304,2097152,4⟩,⟨64,4194304,15⟩]⟩)) (aj (aj .z))) .z)) (aj (a7 (aj (.bk (.rf cW (.bk (aj (a7 (aj (.cd (aj .z) .z)) cW)))))) (a7 (aj (.cd (aj .z) .z)) (aj .z)))))
def agu:An:=aj (a7 (a7 (.rg [] [] (some ⟨[(true,0),(true,1),(true,2),(true,3),(true,4),(true,5),(true,6),(true,7),(true,8),(true,9),(true,10),(true,11),(true,12),(true,13),(true,14),(true,15),(true,16),(true,17),(true,18),(true,19),(true,20),(true,21),(true,22),(true,23),(true,24),(true,25),(true,26)],[⟨32,2,0⟩,⟨64,32,1⟩,⟨128,64,2⟩,⟨256,128,4⟩,⟨512,256,8⟩,⟨1024,512,16⟩,⟨2048,1026,32⟩,⟨4096,3072,96⟩,⟨8192,5120,160⟩,⟨16384,9216,288⟩,⟨32768,17408,544⟩,⟨65536,33792,1056⟩,⟨131072,66560,2080⟩,⟨262144,132096,4128⟩,⟨524288,262144,8224⟩,⟨1048576,524290,16384⟩,⟨2097152,1572864,49152⟩,⟨4194304,2621440,81920⟩,⟨8388608,4718592,147456⟩,⟨16777216,8912896,278528⟩,⟨33554432,17301504,540672⟩,⟨67108864,524290,16384⟩,⟨134217728,67633152,2113536⟩,⟨268435456,134742016,4210688⟩,⟨536870912,268959744,8404992⟩,⟨1073741824,570949632,17842176⟩,⟨2147483648,1074266112,33570816⟩]⟩)) (.cd (aj .z) .z)) (aj (a7 (aj (.bk (.lp [1,3,36,37] (aj (a7 (.cd .z .z) (a7 (.bk (aj (aj (.cd (aj .z) .z)))) cW)))))) (aj .z))))
def agv:An:=a7 (.rg [1,2] [] none) (a7 (.rg [3] [] none) (a7 (a7 (.rg [7,8,9,10] [] none) (.bk (.lp [1,2,3,8,9,10] (a7 (.rg [11] [] none) (a7 (.cd .z .z) (a7 (.bk (a7 (.rg [4,5,12,13,14] [] none) (a7 (.rg [3,15,16,17] [] none) (a7 (a7 (.rg [18,19,20] [] none) (.cd (a7 (.rg [2] [] none) .z) .z)) (.rg [3,21,22,23,24,25,26,27] [] none))))) (.rg [10,28] [] none))))))) (a7 (.rg [6] [] none) (a7 (a7 (.rg [29,30,31] [] none) (.bk (.rf .z (.bk (.rg [33,34] [] none))))) (a7 (.rg [2,35,36] [] none) .z)))))
def agw:An:=aj (a7 (aj (.cd (aj .z) .z)) (a7 (aj (.bk (.lp [0,9,10] (aj (a7 (.cd .z .z) (a7 (.bk (aj (aj (.cd (aj .z) .z)))) cW)))))) (aj .z)))
def agx:An:=aj (aj .z)
def agy:An:=aj (aj .z)
def agz:An:=aj (aj (a7 (.bk (aj (.cd (aj .z) (aj (.cd (aj .z) (aj (.cd (aj .z) (aj (.cd (aj .z) (aj (.cd (aj .z) .z))))))))))) (aj .z)))
def agA:An:=aj (a7 (.rg [] [] (some ⟨[(true,0),(true,1),(true,2),(true,3),(true,4),(true,5),(true,6),(true,7),(true,8),(false,9),(false,10)],[⟨64,8,0⟩,⟨128,4,0⟩,⟨256,128,2⟩,⟨512,256,4⟩,⟨1024,8,0⟩,⟨2048,1536,24⟩,⟨4096,2048,32⟩,⟨8192,4096,64⟩,⟨16384,8256,129⟩,⟨32,0,0⟩,⟨0,16416,1023⟩]⟩)) (aj .z))
def agB:An:=aj (aj (a7 (.bk (aj (.cd (aj .z) (aj (.cd (aj .z) .z))))) (a7 (aj (aj (.cd (aj (aj .z)) .z))) (aj .z))))
def agC:An:=aj (aj (a7 (aj (.bk (.lp [2,4,13,14] (aj (a7 (.cd .z .z) (a7 (.bk (aj cW)) cW)))))) (aj .z)))
def agD:An:=a7 (.rg [2] [] none) (a7 (a7 (.rg [3,4] [] none) (.cd (a7 (.rg [2] [] none) .z) .z)) (a7 (.rg [2,5,6,7] [] none) .z))
def agE:An:=aj (a7 (aj (.cd (aj .z) .z)) (a7 (aj (.bk (.lp [8,9,10] (aj (a7 (.cd .z .z) (a7 (.bk (aj (aj (.cd (aj .z) .z)))) cW)))))) (aj .z)))
def agF:An:=aj (aj .z)
def acE:An:=aj (a7 (aj (.cd (aj .z) .z)) (aj (aj .z)))
def acF:An:=aj (aj .z)
def acG:An:=aj (.cd cW .z)
def acH:An:=aj (aj (aj .z))
def acI:An:=aj (a7 (aj (.cd (aj .z) .z)) (aj (aj (aj (aj (aj (aj .z)))))))
def acJ:An:=aj (aj .z)
def acK:An:=aj (.bk (.lp [0,1,2] (a7 (aj (.cd .z .z)) (.bk cW))))
def acL:An:=aj (aj (aj (aj (aj .z))))
def acM:An:=aj (aj (.sq (some [3]) (.bk (aj (.cd cW (aj (.cd cW (aj (.cd cW (aj cW)))))))) (aj .z)))
def acN:An:=aj (aj (aj (aj (.sq (some [3,4]) (.bk (.lp [0,3,4] (a7 (aj (.cd .z .z)) (.bk (a7 (aj (a7 (.rg [] [61] none) (.cd .z .z))) (aj cW)))))) (a7 (aj (.cd (aj .z) .z)) (aj .z))))))
def acO:An:=a7 (.rg [2] [] none) (a7 (.rg [3,6,7,8,9,10] [] none) (a7 (a7 (.rg [11,12,13,14,15,16] [] none) (.bk (.lp [3,14,15,16] (a7 (.rg [17] [] none) (a7 (.cd .z .z) (a7 (.bk (a7 (.rg [5,18,19] [] none) (.rg [3,20,21,22,23] [] none))) (.rg [16,24] [] none))))))) (a7 (.rg [25,26,27,28,29] [] none) (a7 (.rg [2,30] [] none) .z))))
def acP:An:=aj (a7 (.rg [] [178] none) .z)
def acQ:An:=aj (aj .z)
def acR:An:=aj (aj (a7 (aj (.bk (.rf cW (.bk cW)))) (.bk (aj (.cd cW (aj (.cd cW (aj (.cd cW (aj (.cd cW (aj (.cd cW cW)))))))))))))
def acS:An:=aj (a7 (aj (aj (.cd (aj .z) .z))) (aj (a7 (aj (.bk (.lp [0,5,13,14,15] (aj (a7 (.cd .z .z) (a7 (.bk (aj (.sq (some [0,5,7,13,14,15]) (a7 (.rg [] [] (some ⟨[(true,0),(true,1),(true,2),(true,3),(true,4),(true,5),(true,6),(true,7),(true,8),(true,9),(true,10)],[⟨1048576,64,0⟩,⟨2097152,1048576,1⟩,⟨4194304,2097152,2⟩,⟨8388608,4194305,4⟩,⟨16777216,4194368,4⟩,⟨33554432,20971520,20⟩,⟨67108864,46137344,44⟩,⟨134217728,71303168,68⟩,⟨268435456,4194432,4⟩,⟨536870912,406847488,388⟩,⟨1073741824,541065216,516⟩]⟩)) (.cd cW .z)) cW))) cW)))))) (a7 (aj (.cd (aj .z) .z)) (aj .z)))))
def acT:An:=aj (aj (aj (aj .z)))
def acU:An:=aj (aj .z)
def acV:An:=aj (aj (aj (a7 (a7 (.rg [] [122,208] none) (.cd (aj .z) .z)) (a7 (a7 (.rg [] [122] none) (.cd (aj .z) .z)) (aj (aj (a7 (aj (.bk (.rf cW (.bk (a7 (.rg [] [] (some ⟨[(true,0),(true,1),(true,2),(true,3),(true,4),(true,5),(true,6),(true,7),(true,8),(false,9),(false,10)],[⟨19807040628566084398385987584,1024,0⟩,⟨39614081257132168796771975168,8,0⟩,⟨79228162514264337593543950336,39614081257132168796771975168,2⟩,⟨158456325028528675187087900672,79228162514264337593543950336,4⟩,⟨316912650057057350374175801344,4096,0⟩,⟨633825300114114700748351602688,475368975085586025561263702016,24⟩,⟨1267650600228229401496703205376,633825300114114700748351602688,32⟩,⟨2535301200456458802993406410752,1267650600228229401496703205376,64⟩,⟨5070602400912917605986812821504,2535301200456458802993406410752,128⟩,⟨10141204801825835211973625643008,5090409441541483690385198809088,257⟩,⟨0,10141204801825835211973625644032,1023⟩]⟩)) (a7 (a7 (.rg [] [] (some ⟨[(true,0),(true,1),(true,2),(true,3),(true,4),(true,5),(true,6),(true,7),(true,8),(true,9),(true,10),(true,11),(true,12),(true,13),(true,14)],[⟨20282409603651670423947251286016,16,0⟩,⟨40564819207303340847894502572032,128,0⟩,⟨81129638414606681695789005144064,40564819207303340847894502572032,2⟩,⟨162259276829213363391578010288128,101412048018258352119736256430080,5⟩,⟨324518553658426726783156020576256,4096,0⟩,⟨649037107316853453566312041152512,486777830487640090174734030864384,24⟩,⟨1298074214633706907132624082305024,8,0⟩,⟨2596148429267413814265248164610048,1298074214633706907132624082305024,64⟩,⟨5192296858534827628530496329220096,2596148429267413814265248164610048,128⟩,⟨10384593717069655257060992658440192,4096,0⟩,⟨20769187434139310514121985316880384,15576890575604482885591488987660288,768⟩,⟨41538374868278621028243970633760768,20769187434139310514121985316880384,1024⟩,⟨83076749736557242056487941267521536,41538374868278621028243970633760768,2048⟩,⟨166153499473114484112975882535043072,83725786843874095510054253308674048,4128⟩,⟨332306998946228968225951765070086144,166153499473114484112975882535043072,8192⟩]⟩)) (.cd (aj .z) .z)) cW)))))) (aj .z))))))))
def acW:An:=aj (aj (a7 (aj (.cd (aj .z) .z)) (a7 (aj (.bk (.lp [0,1,5,6] (a7 (aj (.cd .z .z)) (.sq (some [0,1,5,6]) (.bk (aj (aj (.cd (aj cW) .z)))) cW))))) (aj (aj .z)))))
def acX:An:=aj (aj .z)
def acY:An:=aj (aj .z)
def acZ:An:=aj (.bk (.lp [0,1,2,4] (a7 (aj (.cd .z .z)) (.bk (aj (.bk (.sq (some [0,1,2,4,14,24]) (aj (.cd .z cW)) (.cd cW (aj (.cd (aj (a7 (aj (.cd .z .z)) cW)) (a7 (aj (.cd .z .z)) cW)))))))))))
def ac0:An:=aj (aj .z)
def ac1:An:=aj (a7 (.bk (.lp [0,2] (a7 (a7 (.rg [] [151] none) (.cd .z .z)) (.bk cW)))) (aj .z))
def ac2:An:=aj (a7 (aj (.bk (.lp [0,2,6,7] (aj (a7 (.cd .z .z) (a7 (.bk (aj (aj (.cd (aj .z) .z)))) cW)))))) (a7 (a7 (.rg [] [214] none) (.cd (aj .z) .z)) (aj .z)))
def ac3:An:=aj (aj .z)
def ac4:An:=aj (aj (a7 (aj (.bk (.lp [0,3,6,7] (aj (a7 (.cd .z .z) (a7 (.bk (aj (a7 (aj (.cd (aj .z) .z)) cW))) cW)))))) (a7 (.bk (aj (.cd (aj .z) (aj (.cd (aj .z) .z))))) (aj .z))))
def agi:An:=aj (a7 (.bk (aj (.cd (aj .z) (aj (.cd (aj .z) (aj (.cd (aj .z) .z))))))) (aj .z))
def agj:An:=aj (a7 (aj (aj (.cd (aj .z) .z))) (aj (aj (a7 (aj (.bk (.rf (aj cW) (.bk (a7 (aj (.cd .z .z)) (aj (.sq (some [2,3,4,7,9,11,12]) (aj (.cd cW .z)) (a7 (aj (.cd (aj .z) .z)) (aj cW))))))))) (aj .z)))))
def agk:An:=aj (aj (aj .z))
def agl:An:=aj (aj .z)
def agm:An:=aj (a7 (aj (.cd (aj .z) .z)) (a7 (aj (.bk (.lp [0,1,5] (a7 (aj (.cd .z .z)) (a7 (.bk (a7 (.rg [] [] (some ⟨[(true,0),(true,1),(true,2),(true,3),(true,4),(true,5),(true,6),(true,7),(true,8)],[⟨131072,1,0⟩,⟨262144,32,0⟩,⟨524288,393216,3⟩,⟨1048576,524288,4⟩,⟨2097152,2,0⟩,⟨4194304,32,0⟩,⟨8388608,6291456,48⟩,⟨16777216,8388608,64⟩,⟨33554432,17825792,136⟩]⟩)) (.cd (aj .z) .z))) cW))))) (aj .z)))
def agc:An:=aj (aj (a7 (aj (.cd (aj .z) .z)) (aj (a7 (.bk (.lp [2,5,8] (a7 (a7 (.rg [] [] (some ⟨[(true,0),(true,1),(true,2),(true,3),(true,4),(true,5),(true,6),(true,7),(true,8),(true,9)],[⟨16777216,32,0⟩,⟨33554432,16777216,1⟩,⟨67108864,33554432,2⟩,⟨134217728,67108864,4⟩,⟨268435456,32,0⟩,⟨536870912,268435456,16⟩,⟨1073741824,536870912,32⟩,⟨2147483648,1073741824,64⟩,⟨4294967296,2147483648,128⟩,⟨8589934592,4429185024,264⟩]⟩)) (.cd .z .z)) (.bk (aj (a7 (aj (.cd (aj .z) .z)) cW)))))) (aj (aj .z))))))
def agd:An:=aj (aj .z)
def age:An:=aj (aj .z)
def agf:An:=a7 (.rg [1,2] [] none) (a7 (.rg [3,4,5,6] [] none) .z)
def agh:An:=aj (aj .z)
section
variable (a0 a1 a2 a3 a4 a5 a6:AV) (R:cV->St->Prop) (U:St)
def aaq:Prop :=
 ae K 33 [a0] U (ah (λ v10 U =>
 (aU v10 0).wp K U (λ v11 U =>
 (aU v10 1).wp K U (λ v12 U =>
 (aU v10 2).wp K U (λ cn U =>
 (aw .neq aR true cn (.int .i64 0)).wp K U (λ cz U =>
 ax cz (
 aq R (.aK [.a8,v12,cn]) U) (
 (cr (some true) a0).wp K U (λ v20 U =>
 ae K 96 [] U (ah (λ v21 U =>
 ae K 97 [] U (ah (λ eo U =>
 (ek (some [(0,1),(1,1),(2,1),(3,1),(4,1)]) (some [.ag,.int .i64 0,.int .i64 0,.kx,.kx]) none [(0,v11),(2,v20),(3,v21),(4,eo)]).wp K U (λ eO U =>
 (fL eO).wp K U (λ v24 U =>
 aq R (.aK [v24,(.int .i64 0),(.int .i64 0)]) U) (aa R)) (aa R)) (aa R))) (aa R))) (aa R))) (aa R)) (aa R)) (aa R)) (aa R)) (aa R))
def aar:Prop :=
 ae K 99 [a0,(.int .u8 2)] U (ah (λ v5 U =>
 ae K 100 [a0,(.str dY)] U (ah (λ v7 U =>
 ax v7 (
 ae K 101 [a0] U (ah (λ v10 U =>
 (aZ v5).wp K U (λ v11 U =>
 (af (some 0) v11).wp K U (λ v12 U =>
 (af (some 1) v12).wp K U (λ cn U =>
 (aI aF cn v10 U).wp K U (λ _ U =>
 ae K 102 [a0,(.str dk)] U (ah (λ cz U =>
 ae K 104 [a0] U (ah (λ cw U =>
 (au (some (87,1)) (some [.a8]) 1 false [(0,cw)]).wp K U (λ dt U =>
 ae K 103 [v5,dt] U (ah (λ v20 U =>
 ae K 102 [a0,(.str cC)] U (ah (λ eo U =>
 aq R v5 U) (aa R))) (aa R))) (aa R)) (aa R))) (aa R))) (aa R)) (aa R)) (aa R)) (aa R)) (aa R))) (
 (aZ v5).wp K U (λ fh U =>
 (af (some 0) fh).wp K U (λ gi U =>
 (af (some 0) gi).wp K U (λ dX U =>
 (aI aF dX (.int .u8 4) U).wp K U (λ _ U =>
 jn 2 (λ v0 v3 U =>
 ae K 101 [v0] U (ah (λ iZ U =>
 (aZ v3).wp K U (λ lD U =>
 (af (some 0) lD).wp K U (λ v40 U =>
 (af (some 1) v40).wp K U (λ kM U =>
 (aI aF kM iZ U).wp K U (λ _ U =>
 ae K 102 [v0,(.str bK)] U (ah (λ kj U =>
 jn 2 (λ iM zL U =>
 ae K 102 [iM,(.str bJ)] U (ah (λ nC U =>
 ae K 102 [iM,(.str dk)] U (ah (λ oI U =>
 ae K 108 [iM] U (ah (λ v59 U =>
 (au (some (87,1)) (some [.a8]) 1 false [(0,v59)]).wp K U (λ yB U =>
 ae K 103 [zL,yB] U (ah (λ nV U =>
 ae K 102 [iM,(.str gP)] U (ah (λ rj U =>
 ae K 109 [iM] U (ah (λ BQ U =>
 (au (some (87,1)) (some [.a8]) 1 false [(0,BQ)]).wp K U (λ td U =>
 ae K 103 [zL,td] U (ah (λ sV U =>
 ae K 102 [iM,(.str cC)] U (ah (λ v70 U =>
 aq R zL U) (aa R))) (aa R))) (aa R)) (aa R))) (aa R))) (aa R))) (aa R)) (aa R))) (aa R))) (aa R))) λ HQ =>
 (au (some (9,1)) (some [.str []]) 1 false [(0,(.str bJ))]).wp K U (λ mg U =>
 ae K 105 [v0,mg] U (ah (λ v46 U =>
 (lj .not v46).wp K U (λ nB U =>
 ax nB (
 ae K 106 [v0,v3,(.func (.func 107) [v0] [])] U (ah (λ mU U =>
 HQ v0 v3 U) (aa R))) (
 HQ v0 v3 U)) (aa R)) (aa R))) (aa R)) (aa R))) (aa R)) (aa R)) (aa R)) (aa R)) (aa R))) λ j =>
 ae K 100 [a0,(.str gg)] U (ah (λ ef U =>
 ax ef (
 (aZ v5).wp K U (λ v31 U =>
 (af (some 0) v31).wp K U (λ gl U =>
 (af (some 0) gl).wp K U (λ gj U =>
 (aI aF gj (.int .u8 3) U).wp K U (λ _ U =>
 j a0 v5 U) (aa R)) (aa R)) (aa R)) (aa R)) (
 ae K 102 [a0,(.str dQ)] U (ah (λ iC U =>
 j a0 v5 U) (aa R)))) (aa R))) (aa R)) (aa R)) (aa R)) (aa R))) (aa R))) (aa R))
def aas:Prop :=
 (aC.cL [.ag]).wp K U (λ v2 U =>
 (ek (some [(0,1),(1,1),(2,1),(3,1),(4,1),(5,1)]) (some [.int .u8 0,.str [],.int .i64 0,.int .i64 0,.int .i64 0,.int .i64 0]) none [(0,(.int .u8 1))]).wp K U (λ v6 U =>
 (ek (some [(0,6),(6,1)]) (some [.int .u8 0,.str [],.int .i64 0,.int .i64 0,.int .i64 0,.int .i64 0,.ag]) none [(0,v6),(1,a0)]).wp K U (λ v8 U =>
 (fL v8).wp K U (λ v9 U =>
 ae K 110 [v9] U (ah (λ v11 U =>
 (ek (some [(0,1)]) (some [.ag]) none [(0,v11)]).wp K U (λ v12 U =>
 (aC.cL [.ag]).wp K U (λ v5 U =>
 (aI (some (true,1)) v5 v12 U).wp K U (λ _ U =>
 (af (some 0) v5).wp K U (λ cn U =>
 (ak aF cn U).wp K U (λ cA U =>
 (cr (some false) cA).wp K U (λ cz U =>
 (aw .gtr aR true cz (.int .i64 900)).wp K U (λ cQ U =>
 ao K (aM cQ false) (ak (some (true,1)) v5 U) (λ cw =>
 ao K (aM cQ false) (aC.enter 69 [cw]) (λ dt =>
 (bN cQ (.bool true) dt).wp K U (λ v20 U =>
 ax v20 (
 (ek (some [(0,1)]) (some [.ag]) none []).wp K U (λ v21 U =>
 (aI (some (true,1)) v2 v21 U).wp K U (λ _ U =>
 bD (some (true,1)) v2 U λ r0 =>
 aq R (.aK [r0,(.int .i64 5)]) U) (aa R)) (aa R)) (
 (ak (some (true,1)) v5 U).wp K U (λ eo U =>
 (aI (some (true,1)) v2 eo U).wp K U (λ _ U =>
 bD (some (true,1)) v2 U λ o8 =>
 aq R (.aK [o8,(.int .i64 0)]) U) (aa R)) (aa R))) (aa R)))) (aa R)) (aa R)) (aa R)) (aa R)) (aa R)) (aa R)) (aa R)) (aa R))) (aa R)) (aa R)) (aa R)) (aa R)
def aat:Prop :=
 (fL a0).wp K U (λ v1 U =>
 (ak (some (true,3)) v1 U).wp K U (λ v3 U =>
 (au (some (9,1)) (some [.str []]) 3 false [(0,(.str dY)),(1,(.str gg)),(2,(.str dQ))]).wp K U (λ v4 U =>
 ae K 121 [v3,v4] U (ah (λ v5 U =>
 aq R v5 U) (aa R))) (aa R)) (aa R)) (aa R)
def aau:Prop :=
 (fL a0).wp K U (λ v3 U =>
 (ak (some (true,1)) v3 U).wp K U (λ v9 U =>
 ae K 30 [v9] U (ah (λ v10 U =>
 (aw .neq aR true v10 (.int .i64 0)).wp K U (λ cn U =>
 ax cn (
 aq R (.aK [(.str w_),v10]) U) (
 (af (some 0) v3).wp K U (λ dq U =>
 (ak aF dq U).wp K U (λ cw U =>
 (cr (some false) cw).wp K U (λ dt U =>
 (aw .sub aR true dt (.int .i64 1)).wp K U (λ v20 U =>
 ae K 122 [(.int .i64 0),v20,a1] U (ah (λ eo U =>
 (lj .not eo).wp K U (λ eO U =>
 ax eO (
 aq R (.aK [(.str w_),(.int .i64 3)]) U) (
 (ak (some (true,1)) v3 U).wp K U (λ dX U =>
 (ek (some [(0,1)]) (some [.ag]) none [(0,dX)]).wp K U (λ v28 U =>
 (jz K.P a2 [v28]).wp K U (λ ef U =>
 (aU ef 0).wp K U (λ v30 U =>
 (aU ef 1).wp K U (λ v31 U =>
 (aw .neq aR true v31 (.int .i64 0)).wp K U (λ gj U =>
 ax gj (
 aq R (.aK [(.str w_),v31]) U) (
 aq R (.aK [v30,(.int .i64 0)]) U)) (aa R)) (aa R)) (aa R)) (aa R)) (aa R)) (aa R))) (aa R)) (aa R))) (aa R)) (aa R)) (aa R)) (aa R))) (aa R)) (aa R))) (aa R)) (aa R)
def aav:Prop :=
 (fL a0).wp K U (λ v2 U =>
 (ak (some (true,1)) v2 U).wp K U (λ v5 U =>
 (ak aF a1 U).wp K U (λ v6 U =>
 ae K 64 [v5,v6] U (ah (λ v7 U =>
 (aU v7 0).wp K U (λ v8 U =>
 (aU v7 1).wp K U (λ v9 U =>
 aq R (.aK [v8,v9]) U) (aa R)) (aa R)) (aa R))) (aa R)) (aa R)) (aa R)
def QS:Prop :=
 (fL a0).wp K U (λ v2 U =>
 (aC.cL [.str []]).wp K U (λ v4 U =>
 (aC.cL [.int .i64 0]).wp K U (λ v5 U =>
 (af (some 0) v2).wp K U (λ v11 U =>
 (af (some 0) v11).wp K U (λ v12 U =>
 (ak aF v12 U).wp K U (λ cn U =>
 (aE (some (43,6)) none cn a1).wp K U (λ cz U =>
 (af (some 0) cz).wp K U (λ cQ U =>
 (ak aF cQ U).wp K U (λ dq U =>
 (aw .neq aR true dq (.int .u8 1)).wp K U (λ cw U =>
 ax cw (
 (λ ar:St =>
 az K (ak (some (true,1)) v2 ar) (λ dt =>
 az K (aC.enter 96 []) (λ v20 =>
 az K (ek (some [(0,1),(1,1),(2,1)]) (some [.ag,.ag,.kx]) none [(0,dt),(2,v20)]) (λ v21 =>
 (fL v21).wp K U (λ eo U=>df ((eE v2++[])++[]) ar U /\
 ae K 123 [eo,a1] U (ah (λ fh U =>
 (aZ eo).wp K U (λ dX U =>
 (af (some 1) dX).wp K U (λ v28 U =>
 (ak aF v28 U).wp K U (λ ef U =>
 ae K 124 [ef] U (ah (λ v30 U =>
 (aU v30 0).wp K U (λ v31 U =>
 (aU v30 1).wp K U (λ gl U =>
 (aI aF v4 v31 U).wp K U (λ _ U =>
 (aI aF v5 gl U).wp K U (λ _ U =>
 bD aF v4 U λ r0 =>
 bD aF v5 U λ r1 =>
 aq R (.aK [r0,r1]) U) (aa R)) (aa R)) (aa R)) (aa R)) (aa R))) (aa R)) (aa R)) (aa R)) (aa R))) (aa R))))) U) (
 (aC.new .box none (.uS 158 [.a8,.ag])).wp K U (λ v7 U =>
 (ak (some (true,1)) v2 U).wp K U (λ gj U =>
 ae K 81 [gj,a1] U (ah (λ iC U =>
 sN K 1 iC U (λ ij q U =>
 q.E6 (λ U =>
 (ak (some (true,1)) v2 U).wp K U (λ iZ U =>
 ae K 64 [iZ,ij] U (ah (λ v40 U =>
 (aU v40 0).wp K U (λ kM U =>
 (aU v40 1).wp K U (λ fD U =>
 (aw .neq aR true fD (.int .i64 0)).wp K U (λ lE U =>
 ax lE (
 (aI aF v4 (.str w_) U).wp K U (λ _ U =>
 (aI aF v5 fD U).wp K U (λ _ U =>
 q.r U) (λ _ _=>False)) (λ _ _=>False)) (
 (aw .add aR true kM (.str sW)).wp K U (λ nB U =>
 ae K 125 [v7,nB] U (ah (λ ri U =>
 q.n U) (λ _ _=>False))) (λ _ _=>False))) (λ _ _=>False)) (λ _ _=>False)) (λ _ _=>False)) (λ _ _=>False))) (λ _ _=>False)) U) (λ U =>
 ae K 126 [v7] U (ah (λ v49 U =>
 (aw .gtr aR true v49 (.int .i64 2500)).wp K U (λ ji U =>
 ax ji (
 (aI aF v4 (.str w_) U).wp K U (λ _ U =>
 (aI aF v5 (.int .i64 5) U).wp K U (λ _ U =>
 bD aF v4 U λ o8 =>
 bD aF v5 U λ LI =>
 aq R (.aK [o8,LI]) U) (aa R)) (aa R)) (
 ae K 127 [v7] U (ah (λ v51 U =>
 (aI aF v4 v51 U).wp K U (λ _ U =>
 (aI aF v5 (.int .i64 0) U).wp K U (λ _ U =>
 bD aF v4 U λ rM =>
 bD aF v5 U λ LJ =>
 aq R (.aK [rM,LJ]) U) (aa R)) (aa R)) (aa R)))) (aa R)) (aa R))) (λ i U =>
 J7 (Nat.beq i 0) (
 ae K 126 [v7] U (ah (λ Rc U =>
 (aw .gtr aR true Rc (.int .i64 2500)).wp K U (λ CB U =>
 ax CB (
 (aI aF v4 (.str w_) U).wp K U (λ _ U =>
 (aI aF v5 (.int .i64 5) U).wp K U (λ _ U =>
 bD aF v4 U λ zC =>
 bD aF v5 U λ X6 =>
 aq R (.aK [zC,X6]) U) (aa R)) (aa R)) (
 ae K 127 [v7] U (ah (λ ahP U =>
 (aI aF v4 ahP U).wp K U (λ _ U =>
 (aI aF v5 (.int .i64 0) U).wp K U (λ _ U =>
 bD aF v4 U λ LG =>
 bD aF v5 U λ ajt =>
 aq R (.aK [LG,ajt]) U) (aa R)) (aa R)) (aa R)))) (aa R)) (aa R))) (
 False)) (λ U =>
 bD aF v4 U λ LH =>
 bD aF v5 U λ aju =>
 aq R (.aK [LH,aju]) U) (λ x U=>(aa R) x U)) (aa R))) (aa R)) (aa R))) (aa R)) (aa R)) (aa R)) (aa R)) (aa R)) (aa R)) (aa R)) (aa R)) (aa R)) (aa R)
def aaw:Prop :=
 (fL a0).wp K U (λ v1 U =>
 (λ ar:St =>
 az K (af (some 0) v1) (λ v5 =>
 az K (af (some 0) v5) (λ v6 =>
 az K (ak aF v6 ar) (λ v7 =>
 az K (cr (some false) v7) (λ v8 =>
 az K (aw .eql aR true v8 (.int .i64 0)) (λ v9 =>
 ao K (aM v9 false) (af (some 0) v1) (λ v11 =>
 ao K (aM v9 false) (af (some 0) v11) (λ v12 =>
 ao K (aM v9 false) (ak aF v12 ar) (λ cn =>
 ao K (aM v9 false) (aE (some (43,6)) none cn (.int .i64 0)) (λ cA =>
 ao K (aM v9 false) (af (some 0) cA) (λ cz =>
 ao K (aM v9 false) (ak aF cz ar) (λ cQ =>
 ao K (aM v9 false) (aw .neq aR true cQ (.int .u8 1)) (λ dq =>
 az K (bN v9 (.bool true) dq) (λ cw =>
 ao K (aM cw false) (af (some 0) v1) (λ v20 =>
 ao K (aM cw false) (af (some 0) v20) (λ v21 =>
 ao K (aM cw false) (ak aF v21 ar) (λ eo =>
 ao K (aM cw false) (aE (some (43,6)) none eo (.int .i64 0)) (λ eO =>
 ao K (aM cw false) (af (some 5) eO) (λ v24 =>
 ao K (aM cw false) (ak aF v24 ar) (λ fh =>
 ao K (aM cw false) (af (some 0) v1) (λ gi =>
 ao K (aM cw false) (af (some 0) gi) (λ dX =>
 ao K (aM cw false) (ak aF dX ar) (λ v28 =>
 ao K (aM cw false) (cr (some false) v28) (λ ef =>
 ao K (aM cw false) (aw .neq aR false fh ef) (λ v30 =>
 az K (bN cw (.bool true) v30) (λ v31 =>
 ax v31 (
 aq R (.bool false) U) (
 ae K 130 [] U (ah (λ gl U =>
 (af (some 0) v1).wp K U (λ gj U =>
 (af (some 0) gj).wp K U (λ hU U =>
 (ak aF hU U).wp K U (λ iC U =>
 (cr (some false) iC).wp K U (λ ij U =>
 fw 4 [v1,gl,ij,(.int .i64 0)] U λ lp nQ v3 rz v37 U =>
 (aw .lss aR false v37 rz).wp K U (λ iZ U =>
 ax iZ (
 (ak (some (true,1)) nQ U).wp K U (λ v40 U =>
 ae K 131 [v40,v37,v3] U (ah (λ kj U =>
 (lj .not kj).wp K U (λ lE U =>
 ax lE (
 aq R (.bool false) U) (
 (aw .add aR true v37 (.int .i64 1)).wp K U (λ mg U =>
 lp nQ v3 rz mg U) (aa R))) (aa R)) (aa R))) (aa R)) (
 aq R (.bool true) U)) (aa R)) (aa R)) (aa R)) (aa R)) (aa R)) (aa R))))))))))))))))))))))))))))) U) (aa R)
def aax:Prop :=
 (fL a0).wp K U (λ v1 U =>
 (af (some 0) v1).wp K U (λ v7 U =>
 (ak aF v7 U).wp K U (λ v8 U =>
 (cr (some false) v8).wp K U (λ v9 U =>
 fw 6 [v1,(.bool false),.ag,v8,v9,(.int .i64 0)] U λ lp nQ v2 v3 mK lM v10 U =>
 (aw .lss aR false v10 lM).wp K U (λ v11 U =>
 ax v11 (
 (aE (some (43,6)) none mK v10).wp K U (λ cn U =>
 (ak (some (true,6)) cn U).wp K U (λ cA U =>
 (aC.cL [.int .i64 0]).wp K U (λ v4 U =>
 (aC.cL [.int .u8 0,.str [],.int .i64 0,.int .i64 0,.int .i64 0,.int .i64 0]).wp K U (λ v5 U =>
 (aI aF v4 v10 U).wp K U (λ _ U =>
 (aI (some (true,6)) v5 cA U).wp K U (λ _ U =>
 ae K 132 [v3,(.func (.func 133) [] [v4])] U (ah (λ dq U =>
 (cr (some false) dq).wp K U (λ dt U =>
 (aw .gtr aR true dt (.int .i64 60)).wp K U (λ v20 U =>
 ax v20 (
 aq R (.bool true) U) (
 (ak aF v4 U).wp K U (λ eo U =>
 (af (some 5) v5).wp K U (λ eO U =>
 (ak aF eO U).wp K U (λ v24 U =>
 (aw .add aR false eo v24).wp K U (λ fh U =>
 (au (some (3,1)) (some [.int .i64 0]) 1 true [(0,fh)]).wp K U (λ gi U =>
 (dB (some (3,1)) true dq gi U).wp K U (λ dX U =>
 (aw .add aR true v10 (.int .i64 1)).wp K U (λ v28 U =>
 lp nQ v2 dX mK lM v28 U) (aa R)) (aa R)) (aa R)) (aa R)) (aa R)) (aa R)) (aa R))) (aa R)) (aa R)) (aa R))) (aa R)) (aa R)) (aa R)) (aa R)) (aa R)) (aa R)) (
 (aC.cL [.int .i64 0]).wp K U (λ v6 U =>
 (aI aF v6 (.int .i64 0) U).wp K U (λ _ U =>
 (ak (some (true,1)) nQ U).wp K U (λ ef U =>
 (ek (some [(0,1)]) (some [.ag]) none [(0,ef)]).wp K U (λ v30 U =>
 ae K 81 [v30,(.int .i64 0)] U (ah (λ v31 U =>
 sN K 1 v31 U (λ gl q U =>
 q.E6 (λ U =>
 (ak aF v6 U).wp K U (λ gj U =>
 (aw .add aR true gj (.int .i64 1)).wp K U (λ hU U =>
 (aI aF v6 hU U).wp K U (λ _ U =>
 q.n U) (λ _ _=>False)) (λ _ _=>False)) (λ _ _=>False)) U) (λ U =>
 (ak aF v6 U).wp K U (λ iC U =>
 (aw .gtr aR true iC (.int .i64 24)).wp K U (λ ij U =>
 aq R ij U) (aa R)) (aa R)) (λ i U =>
 J7 (Nat.beq i 2) (
 (ak aF v6 U).wp K U (λ FL U =>
 (aw .gtr aR true FL (.int .i64 24)).wp K U (λ rz U =>
 aq R rz U) (aa R)) (aa R)) (
 False)) (λ U =>
 aq R v2 U) (λ x U=>(aa R) x U)) (aa R))) (aa R)) (aa R)) (aa R)) (aa R))) (aa R)) (aa R)) (aa R)) (aa R)) (aa R)
def aay:Prop :=
 (cr (some true) a0).wp K U (λ v6 U =>
 (aw .gtr aR true v6 (.int .i64 2500)).wp K U (λ v7 U =>
 ax v7 (
 aq R (.aK [(.int .i64 0),(.int .i64 5)]) U) (
 (cr (some true) a0).wp K U (λ v9 U =>
 fw 3 [a0,v9,(.int .i64 0)] U λ lp v0 lM v10 U =>
 (aw .lss aR false v10 lM).wp K U (λ v11 U =>
 ax v11 (
 (jf true none none v0 v10).wp K U (λ cz U =>
 ae K 146 [cz] U (ah (λ cQ U =>
 (lj .not cQ).wp K U (λ dq U =>
 ax dq (
 aq R (.aK [v10,(.int .i64 2)]) U) (
 (aw .add aR true v10 (.int .i64 1)).wp K U (λ dt U =>
 lp v0 lM dt U) (aa R))) (aa R)) (aa R))) (aa R)) (
 aq R (.aK [(.int .i64 0),(.int .i64 0)]) U)) (aa R)) (aa R))) (aa R)) (aa R)
def aaz (a0 a1:AV) (R:cV->St->Prop) (U:St):Prop :=
 (ak aF a1 U).wp K U (λ v4 U =>
 (ak aF a1 U).wp K U (λ v5 U =>
 (cr (some false) v5).wp K U (λ v6 U =>
 (aw .sub aR true v6 (.int .i64 1)).wp K U (λ v7 U =>
 (aE (some (51,3)) none v4 v7).wp K U (λ v8 U =>
 (af (some 1) v8).wp K U (λ v9 U =>
 (ak aF v9 U).wp K U (λ v10 U =>
 (cr (some true) v10).wp K U (λ v11 U =>
 aq R v11 U) (aa R)) (aa R)) (aa R)) (aa R)) (aa R)) (aa R)) (aa R)) (aa R)
def aaA:Prop :=
 (fL a0).wp K U (λ v2 U =>
 (fL a1).wp K U (λ v3 U =>
 aq R (.func (.func 147) [] [v2,v3]) U) (aa R)) (aa R)
def aaB:Prop :=
 (aC.cL [.int .u8 0,.str [],.int .i64 0]).wp K U (λ v2 U =>
 ae K 149 [a0] U (ah (λ v7 U =>
 (eD true none a0 none (some v7)).wp K U (λ v8 U =>
 (aw .eql aR true v8 (.str w_)).wp K U (λ v11 U =>
 ax v11 (
 ae K 150 [a0] U (ah (λ cn U =>
 (aU cn 0).wp K U (λ cA U =>
 (aU cn 1).wp K U (λ cz U =>
 (aI (some (true,3)) v2 cA U).wp K U (λ _ U =>
 bD (some (true,3)) v2 U λ r0 =>
 aq R (.aK [r0,cz]) U) (aa R)) (aa R)) (aa R)) (aa R))) (
 (jf true none none v8 (.int .i64 0)).wp K U (λ cw U =>
 (au (some (178,1)) (some [.int .i64 0]) 1 false [(0,(.int .i64 2))]).wp K U (λ dt U =>
 ae K 151 [cw,dt] U (ah (λ v20 U =>
 ax v20 (
 (ek (some [(0,1),(1,1),(2,1)]) (some [.int .u8 0,.str [],.int .i64 0]) none [(0,(.int .u8 2)),(1,v8)]).wp K U (λ eo U =>
 ae K 152 [v8] U (ah (λ v24 U =>
 (aI (some (true,3)) v2 eo U).wp K U (λ _ U =>
 bD (some (true,3)) v2 U λ o8 =>
 aq R (.aK [o8,v24]) U) (aa R)) (aa R))) (aa R)) (
 (jf true none none v8 (.int .i64 0)).wp K U (λ dX U =>
 (au (some (178,1)) (some [.int .i64 0]) 1 false [(0,(.int .i64 3))]).wp K U (λ v28 U =>
 ae K 151 [dX,v28] U (ah (λ ef U =>
 (lj .not ef).wp K U (λ v30 U =>
 ax v30 (
 (ek (some [(0,1),(1,1),(2,1)]) (some [.int .u8 0,.str [],.int .i64 0]) none []).wp K U (λ v31 U =>
 (aI (some (true,3)) v2 v31 U).wp K U (λ _ U =>
 bD (some (true,3)) v2 U λ rM =>
 aq R (.aK [rM,(.int .i64 4)]) U) (aa R)) (aa R)) (
 ae K 153 [] U (ah (λ gj U =>
 (eQ (some (.s,4)) (some (.bool false)) gj v8 false U).wp K U (λ iC U =>
 ax iC (
 (ek (some [(0,1),(1,1),(2,1)]) (some [.int .u8 0,.str [],.int .i64 0]) none [(0,(.int .u8 3)),(1,v8)]).wp K U (λ v37 U =>
 (aI (some (true,3)) v2 v37 U).wp K U (λ _ U =>
 bD (some (true,3)) v2 U λ zC =>
 aq R (.aK [zC,(.int .i64 0)]) U) (aa R)) (aa R)) (
 (cr (some true) v8).wp K U (λ v40 U =>
 (aw .gtr aR true v40 (.int .i64 12)).wp K U (λ kM U =>
 ax kM (
 (ek (some [(0,1),(1,1),(2,1)]) (some [.int .u8 0,.str [],.int .i64 0]) none []).wp K U (λ fD U =>
 (aI (some (true,3)) v2 fD U).wp K U (λ _ U =>
 bD (some (true,3)) v2 U λ LG =>
 aq R (.aK [LG,(.int .i64 4)]) U) (aa R)) (aa R)) (
 (ek (some [(0,1),(1,1),(2,1)]) (some [.int .u8 0,.str [],.int .i64 0]) none [(0,(.int .u8 1)),(1,v8)]).wp K U (λ lE U =>
 (aI (some (true,3)) v2 lE U).wp K U (λ _ U =>
 bD (some (true,3)) v2 U λ LH =>
 aq R (.aK [LH,(.int .i64 0)]) U) (aa R)) (aa R))) (aa R)) (aa R))) (aa R)) (aa R)))) (aa R)) (aa R))) (aa R)) (aa R))) (aa R))) (aa R)) (aa R))) (aa R)) (aa R)) (aa R))) (aa R)
def aaC:Prop :=
 (fL a0).wp K U (λ v2 U =>
 (fL a1).wp K U (λ v3 U =>
 (λ ar:St =>
 az K (ak aF v3 ar) (λ v6 =>
 az K (af (some 0) v2) (λ v7 =>
 az K (af (some 0) v7) (λ v8 =>
 az K (ak aF v8 ar) (λ v9 =>
 az K (ak aF v3 ar) (λ v10 =>
 az K (aE (some (43,6)) none v9 v10) (λ v11 =>
 az K (af (some 5) v11) (λ v12 =>
 az K (ak aF v12 ar) (λ cn =>
 az K (aw .add aR false v6 cn) (λ cA =>
 (aC.cL [.int .i64 0]).wp K U (λ v5 U=>df ((eE v12++[])++((eE v3++[])++((eE v8++[])++((eE v3++[])++[])))) ar U /\
 (aI aF v5 cA U).wp K U (λ _ U =>
 aq R (.func (.func 155) [] [v3,v5,v2]) U) (aa R)) (aa R))))))))))) U) (aa R)) (aa R)
def aaD:Prop :=
 (fL a0).wp K U (λ v3 U =>
 (aC.cL [.ag]).wp K U (λ v6 U =>
 (ak (some (true,1)) v3 U).wp K U (λ v9 U =>
 ae K 30 [v9] U (ah (λ v10 U =>
 (aw .neq aR true v10 (.int .i64 0)).wp K U (λ cn U =>
 ax cn (
 (ak (some (true,1)) v6 U).wp K U (λ cA U =>
 (aI (some (true,1)) v6 cA U).wp K U (λ _ U =>
 bD (some (true,1)) v6 U λ r0 =>
 aq R (.aK [r0,v10]) U) (aa R)) (aa R)) (
 (af (some 0) v3).wp K U (λ dq U =>
 (ak aF dq U).wp K U (λ cw U =>
 (cr (some false) cw).wp K U (λ dt U =>
 (aw .sub aR true dt (.int .i64 1)).wp K U (λ v20 U =>
 ae K 122 [(.int .i64 0),v20,a1] U (ah (λ eo U =>
 (lj .not eo).wp K U (λ eO U =>
 ax eO (
 (ak (some (true,1)) v6 U).wp K U (λ v24 U =>
 (aI (some (true,1)) v6 v24 U).wp K U (λ _ U =>
 bD (some (true,1)) v6 U λ o8 =>
 aq R (.aK [o8,(.int .i64 3)]) U) (aa R)) (aa R)) (
 (ak (some (true,1)) v3 U).wp K U (λ dX U =>
 (ek (some [(0,1)]) (some [.ag]) none [(0,dX)]).wp K U (λ v28 U =>
 (jz K.P a2 [v28]).wp K U (λ ef U =>
 (aU ef 0).wp K U (λ v30 U =>
 (aU ef 1).wp K U (λ v31 U =>
 (aI (some (true,1)) v6 v30 U).wp K U (λ _ U =>
 (aw .neq aR true v31 (.int .i64 0)).wp K U (λ gj U =>
 ax gj (
 (aC.cL [.ag]).wp K U (λ v8 U =>
 (ak (some (true,1)) v8 U).wp K U (λ hU U =>
 (aI (some (true,1)) v6 hU U).wp K U (λ _ U =>
 bD (some (true,1)) v6 U λ rM =>
 aq R (.aK [rM,v31]) U) (aa R)) (aa R)) (aa R)) (
 (ak (some (true,1)) v6 U).wp K U (λ ij U =>
 (aI (some (true,1)) v6 ij U).wp K U (λ _ U =>
 bD (some (true,1)) v6 U λ zC =>
 aq R (.aK [zC,(.int .i64 0)]) U) (aa R)) (aa R))) (aa R)) (aa R)) (aa R)) (aa R)) (aa R)) (aa R)) (aa R))) (aa R)) (aa R))) (aa R)) (aa R)) (aa R)) (aa R))) (aa R)) (aa R))) (aa R)) (aa R)) (aa R)
def aaE:Prop :=
 (fL a0).wp K U (λ v1 U =>
 (aC.cL [.ag]).wp K U (λ v2 U =>
 (af (some 0) v1).wp K U (λ v6 U =>
 (af (some 0) v6).wp K U (λ v7 U =>
 (ak aF v7 U).wp K U (λ v8 U =>
 ae K 89 [v8] U (ah (λ v9 U =>
 (ek (some [(0,1)]) (some [.ag]) none [(0,v9)]).wp K U (λ v10 U =>
 (aC.cL [.ag]).wp K U (λ v4 U =>
 (aI (some (true,1)) v4 v10 U).wp K U (λ _ U =>
 (af (some 0) v4).wp K U (λ v11 U =>
 (ak aF v11 U).wp K U (λ v12 U =>
 (cr (some false) v12).wp K U (λ cn U =>
 fw 4 [v2,v4,cn,(.int .i64 0)] U λ lp ko oH qC cA U =>
 (aw .lss aR false cA qC).wp K U (λ cz U =>
 ax cz (
 (af (some 0) oH).wp K U (λ dq U =>
 (ak aF dq U).wp K U (λ cw U =>
 (aE (some (43,6)) none cw cA).wp K U (λ v20 U =>
 (af (some 4) v20).wp K U (λ v21 U =>
 (aI aF v21 (.int .i64 0) U).wp K U (λ _ U =>
 (aw .add aR true cA (.int .i64 1)).wp K U (λ eo U =>
 lp ko oH qC eo U) (aa R)) (aa R)) (aa R)) (aa R)) (aa R)) (aa R)) (
 (ak (some (true,1)) oH U).wp K U (λ eO U =>
 (aI (some (true,1)) ko eO U).wp K U (λ _ U =>
 bD (some (true,1)) ko U λ r0 =>
 aq R (.aK [r0,(.int .i64 0)]) U) (aa R)) (aa R))) (aa R)) (aa R)) (aa R)) (aa R)) (aa R)) (aa R)) (aa R)) (aa R))) (aa R)) (aa R)) (aa R)) (aa R)) (aa R)
def aaF:Prop :=
 (aw .eql (BT.mk false false false none true) true a0 .ag).wp K U (λ v4 U =>
 ax v4 (
 aq R .ag U) (
 (au (some (43,6)) (some [.int .u8 0,.str [],.int .i64 0,.int .i64 0,.int .i64 0,.int .i64 0]) 0 true []).wp K U (λ v5 U =>
 (dB (some (43,6)) true v5 a0 U).wp K U (λ v7 U =>
 aq R v7 U) (aa R)) (aa R))) (aa R)
def QT:Prop :=
 (cr (some false) a0).wp K U (λ v6 U =>
 (aw .gtr aR true v6 (.int .i64 900)).wp K U (λ v7 U =>
 ax v7 (
 aq R (.int .i64 5) U) (
 (cr (some false) a0).wp K U (λ v9 U =>
 fw 3 [a0,v9,(.int .i64 0)] U λ lp v8 lM v10 U =>
 (aw .lss aR false v10 lM).wp K U (λ v11 U =>
 ax v11 (
 (aE (some (51,3)) none v8 v10).wp K U (λ v12 U =>
 (ak (some (true,3)) v12 U).wp K U (λ cn U =>
 (aC.cL [.int .u8 0,.str [],.int .i64 0]).wp K U (λ v4 U =>
 (aI (some (true,3)) v4 cn U).wp K U (λ _ U =>
 (ak (some (true,3)) v4 U).wp K U (λ cA U =>
 ae K 156 [cA] U (ah (λ cz U =>
 (lj .not cz).wp K U (λ cQ U =>
 ax cQ (
 aq R (.int .i64 2) U) (
 (aw .add aR true v10 (.int .i64 1)).wp K U (λ dq U =>
 lp v8 lM dq U) (aa R))) (aa R)) (aa R))) (aa R)) (aa R)) (aa R)) (aa R)) (aa R)) (
 aq R (.int .i64 0) U)) (aa R)) (aa R))) (aa R)) (aa R)
def ahA:Prop :=
 ae K 164 [a0] U (ah (λ v7 U =>
 (ek (some [(0,1),(1,1),(2,1),(3,1),(4,1),(5,1)]) (some [.int .u8 0,.str [],.int .i64 0,.int .i64 0,.int .i64 0,.int .i64 0]) none [(0,a1),(4,v7)]).wp K U (λ v8 U =>
 (ek (some [(0,6),(6,1)]) (some [.int .u8 0,.str [],.int .i64 0,.int .i64 0,.int .i64 0,.int .i64 0,.ag]) none [(0,v8)]).wp K U (λ v9 U =>
 (fL v9).wp K U (λ v10 U =>
 aq R v10 U) (aa R)) (aa R)) (aa R)) (aa R))
def TW:Prop :=
 (au (some (9,1)) (some [.str []]) 1 false [(0,a1)]).wp K U (λ v7 U =>
 ae K 105 [a0,v7] U (ah (λ v8 U =>
 (lj .not v8).wp K U (λ v9 U =>
 ax v9 (
 aq R (.bool false) U) (
 (aZ a0).wp K U (λ v11 U =>
 (af (some 1) v11).wp K U (λ v12 U =>
 (ak aF v12 U).wp K U (λ cn U =>
 (aw .add aR true cn (.int .i64 1)).wp K U (λ cA U =>
 (aZ a0).wp K U (λ cz U =>
 (af (some 1) cz).wp K U (λ cQ U =>
 (aI aF cQ cA U).wp K U (λ _ U =>
 aq R (.bool true) U) (aa R)) (aa R)) (aa R)) (aa R)) (aa R)) (aa R)) (aa R))) (aa R)) (aa R))) (aa R)
def afj:Prop :=
 ae K 165 [a0,(.int .u8 1)] U (ah (λ v4 U =>
 aq R v4 U) (aa R))
def afk:Prop :=
 ae K 100 [a0,a1] U (ah (λ v6 U =>
 (lj .not v6).wp K U (λ v7 U =>
 ax v7 (
 ae K 166 [a0] U (ah (λ v9 U =>
 aq R (.aK []) U) (aa R))) (
 aq R (.aK []) U)) (aa R)) (aa R))
def T4:Prop :=
 (aZ a0).wp K U (λ v7 U =>
 (af (some 6) v7).wp K U (λ v8 U =>
 (ak aF v8 U).wp K U (λ v9 U =>
 (dB (some (87,1)) false v9 a1 U).wp K U (λ v11 U =>
 (aZ a0).wp K U (λ v12 U =>
 (af (some 6) v12).wp K U (λ cn U =>
 (aI aF cn v11 U).wp K U (λ _ U =>
 aq R a0 U) (aa R)) (aa R)) (aa R)) (aa R)) (aa R)) (aa R)) (aa R)
def Ua:Prop :=
 (au (some (9,1)) (some [.str []]) 1 false [(0,(.str bK))]).wp K U (λ v5 U =>
 ae K 105 [a0,v5] U (ah (λ v6 U =>
 (lj .not v6).wp K U (λ v7 U =>
 ax v7 (
 ae K 108 [a0] U (ah (λ v9 U =>
 aq R v9 U) (aa R))) (
 ae K 99 [a0,(.int .u8 8)] U (ah (λ v11 U =>
 ae K 102 [a0,(.str bK)] U (ah (λ cn U =>
 ae K 106 [a0,v11,(.func (.func 108) [a0] [])] U (ah (λ cw U =>
 ae K 102 [a0,(.str bJ)] U (ah (λ v20 U =>
 ae K 102 [a0,(.str fY)] U (ah (λ eo U =>
 ae K 108 [a0] U (ah (λ fh U =>
 (au (some (87,1)) (some [.a8]) 1 false [(0,fh)]).wp K U (λ gi U =>
 ae K 103 [v11,gi] U (ah (λ dX U =>
 aq R dX U) (aa R))) (aa R)) (aa R))) (aa R))) (aa R))) (aa R))) (aa R))) (aa R)))) (aa R)) (aa R))) (aa R)
def afl:Prop :=
 ae K 167 [a0,(.int .i64 0)] U (ah (λ v6 U =>
 ae K 121 [v6,a1] U (ah (λ v8 U =>
 aq R v8 U) (aa R))) (aa R))
def LP:Prop :=
 (jz K.P a2 []).wp K U (λ v8 U =>
 (au (some (87,1)) (some [.a8]) 1 false [(0,v8)]).wp K U (λ v9 U =>
 ae K 103 [a1,v9] U (ah (λ v10 U =>
 fw 3 [a0,a1,a2] U λ lp v0 v1 v2 U =>
 ae K 100 [v0,(.str cH)] U (ah (λ v12 U =>
 ax v12 (
 (jz K.P v2 []).wp K U (λ cz U =>
 (au (some (87,1)) (some [.a8]) 1 false [(0,cz)]).wp K U (λ cQ U =>
 ae K 103 [v1,cQ] U (ah (λ dq U =>
 lp v0 v1 v2 U) (aa R))) (aa R)) (aa R)) (
 aq R (.aK []) U)) (aa R))) (aa R))) (aa R)) (aa R)
def Ud:Prop :=
 ae K 99 [a0,(.int .u8 5)] U (ah (λ v5 U =>
 ae K 101 [a0] U (ah (λ v8 U =>
 (aZ v5).wp K U (λ v9 U =>
 (af (some 0) v9).wp K U (λ v10 U =>
 (af (some 1) v10).wp K U (λ v11 U =>
 (aI aF v11 v8 U).wp K U (λ _ U =>
 ae K 102 [a0,(.str dk)] U (ah (λ cn U =>
 ae K 104 [a0] U (ah (λ cQ U =>
 (au (some (87,1)) (some [.a8]) 1 false [(0,cQ)]).wp K U (λ dq U =>
 ae K 103 [v5,dq] U (ah (λ cw U =>
 aq R cw U) (aa R))) (aa R)) (aa R))) (aa R))) (aa R)) (aa R)) (aa R)) (aa R)) (aa R))) (aa R))
def Uf:Prop :=
 ae K 99 [a0,(.int .u8 6)] U (ah (λ v5 U =>
 jn 1 (λ v3 U =>
 aq R v3 U) λ j =>
 ae K 100 [a0,(.str pX)] U (ah (λ cQ U =>
 ax cQ (
 (aZ v5).wp K U (λ cw U =>
 (af (some 0) cw).wp K U (λ dt U =>
 (af (some 2) dt).wp K U (λ v20 U =>
 (aI aF v20 (.int .i64 1) U).wp K U (λ _ U =>
 j v5 U) (aa R)) (aa R)) (aa R)) (aa R)) (
 ae K 100 [a0,(.str lP)] U (ah (λ eO U =>
 ax eO (
 (aZ v5).wp K U (λ fh U =>
 (af (some 0) fh).wp K U (λ gi U =>
 (af (some 2) gi).wp K U (λ dX U =>
 (aI aF dX (.int .i64 2) U).wp K U (λ _ U =>
 j v5 U) (aa R)) (aa R)) (aa R)) (aa R)) (
 ae K 100 [a0,(.str ky)] U (ah (λ v30 U =>
 ax v30 (
 ae K 168 [a0] U (ah (λ hU U =>
 (aZ v5).wp K U (λ iC U =>
 (af (some 0) iC).wp K U (λ ij U =>
 (af (some 0) ij).wp K U (λ v37 U =>
 (aI aF v37 (.int .u8 7) U).wp K U (λ _ U =>
 (aZ v5).wp K U (λ iZ U =>
 (af (some 0) iZ).wp K U (λ lD U =>
 (af (some 2) lD).wp K U (λ v40 U =>
 (aI aF v40 hU U).wp K U (λ _ U =>
 j v5 U) (aa R)) (aa R)) (aa R)) (aa R)) (aa R)) (aa R)) (aa R)) (aa R)) (aa R))) (
 ae K 102 [a0,(.str gY)] U (ah (λ v7 U =>
 ae K 168 [a0] U (ah (λ v10 U =>
 (aZ v5).wp K U (λ v11 U =>
 (af (some 0) v11).wp K U (λ v12 U =>
 (af (some 2) v12).wp K U (λ cn U =>
 (aI aF cn v10 U).wp K U (λ _ U =>
 j v5 U) (aa R)) (aa R)) (aa R)) (aa R)) (aa R))) (aa R)))) (aa R)))) (aa R)))) (aa R))) (aa R))
def Uh:Prop :=
 ae K 169 [a0] U (ah (λ v7 U =>
 ae K 99 [a0,(.int .u8 9)] U (ah (λ v9 U =>
 (au (some (87,1)) (some [.a8]) 1 false [(0,v7)]).wp K U (λ v12 U =>
 ae K 103 [v9,v12] U (ah (λ cn U =>
 jn 2 (λ v3 v4 U =>
 (aZ v4).wp K U (λ hU U =>
 (af (some 6) hU).wp K U (λ iC U =>
 (ak aF iC U).wp K U (λ ij U =>
 (cr (some false) ij).wp K U (λ v37 U =>
 (aw .eql aR true v37 (.int .i64 1)).wp K U (λ iZ U =>
 ax iZ (
 aq R v3 U) (
 aq R v4 U)) (aa R)) (aa R)) (aa R)) (aa R)) (aa R)) λ j =>
 fw 3 [a0,v7,v9] U λ lp v0 zL oH U =>
 (au (some (9,1)) (some [.str []]) 1 false [(0,(.str cC))]).wp K U (λ cz U =>
 ae K 105 [v0,cz] U (ah (λ cQ U =>
 ax cQ (
 ae K 167 [v0,(.int .i64 1)] U (ah (λ cw U =>
 (aC.cL [.int .u8 0,.str [],.int .i64 0]).wp K U (λ v5 U =>
 (aI (some (true,3)) v5 cw U).wp K U (λ _ U =>
 (af (some 0) v5).wp K U (λ dt U =>
 (ak aF dt U).wp K U (λ v20 U =>
 (aw .eql aR true v20 (.int .u8 0)).wp K U (λ v21 U =>
 ao K (aM v21 false) (ak (some (true,3)) v5 U) (λ eO =>
 ao K (aM v21 false) (aC.enter 61 [eO]) (λ v24 =>
 (bN v21 (.bool true) v24).wp K U (λ fh U =>
 ax fh (
 j zL oH U) (
 ae K 102 [v0,(.str cC)] U (ah (λ dX U =>
 ae K 169 [v0] U (ah (λ v30 U =>
 (au (some (87,1)) (some [.a8]) 1 false [(0,v30)]).wp K U (λ v31 U =>
 ae K 103 [oH,v31] U (ah (λ gl U =>
 lp v0 zL oH U) (aa R))) (aa R)) (aa R))) (aa R)))) (aa R)))) (aa R)) (aa R)) (aa R)) (aa R)) (aa R)) (aa R))) (
 j zL oH U)) (aa R))) (aa R)) (aa R))) (aa R)) (aa R))) (aa R))
def Uj:Prop :=
 (aZ a0).wp K U (λ v7 U =>
 (af (some 0) v7).wp K U (λ v8 U =>
 (ak (some (true,6)) v8 U).wp K U (λ v9 U =>
 (au (some (43,6)) (some [.int .u8 0,.str [],.int .i64 0,.int .i64 0,.int .i64 0,.int .i64 0]) 1 true [(0,v9)]).wp K U (λ v10 U =>
 (aZ a0).wp K U (λ v12 U =>
 (af (some 6) v12).wp K U (λ cn U =>
 (ak aF cn U).wp K U (λ cA U =>
 (cr (some false) cA).wp K U (λ cz U =>
 fw 4 [v10,cA,cz,(.int .i64 0)] U λ lp v3 sU zK cQ U =>
 (aw .lss aR false cQ zK).wp K U (λ dq U =>
 ax dq (
 (aE (some (87,1)) none sU cQ).wp K U (λ cw U =>
 (ak aF cw U).wp K U (λ dt U =>
 ae K 110 [dt] U (ah (λ eo U =>
 (dB (some (43,6)) true v3 eo U).wp K U (λ eO U =>
 (aw .add aR true cQ (.int .i64 1)).wp K U (λ v24 U =>
 lp eO sU zK v24 U) (aa R)) (aa R)) (aa R))) (aa R)) (aa R)) (
 (cr (some false) v3).wp K U (λ dX U =>
 (aE (some (43,6)) none v3 (.int .i64 0)).wp K U (λ v28 U =>
 (af (some 5) v28).wp K U (λ ef U =>
 (aI aF ef dX U).wp K U (λ _ U =>
 aq R v3 U) (aa R)) (aa R)) (aa R)) (aa R))) (aa R)) (aa R)) (aa R)) (aa R)) (aa R)) (aa R)) (aa R)) (aa R)) (aa R)
def Ul:Prop :=
 (fL a0).wp K U (λ v2 U =>
 (af (some 0) v2).wp K U (λ v5 U =>
 (ak aF v5 U).wp K U (λ v6 U =>
 (aw .eql aR true v6 (.int .u8 3)).wp K U (λ v7 U =>
 ao K (aM v7 false) (af (some 0) v2) (λ v9 =>
 ao K (aM v7 false) (ak aF v9 U) (λ v10 =>
 ao K (aM v7 false) (aw .eql aR true v10 (.int .u8 4)) (λ v11 =>
 (bN v7 (.bool true) v11).wp K U (λ v12 U =>
 ao K (aM v12 true) (aC.val a1) (λ cA =>
 ao K (aM v12 true) (af (some 1) v2) (λ cz =>
 ao K (aM v12 true) (ak aF cz U) (λ cQ =>
 ao K (aM v12 true) (aC.enter 178 [cA,cQ]) (λ dq =>
 (bN v12 dq (.bool false)).wp K U (λ cw U =>
 aq R cw U) (aa R)))))) (aa R))))) (aa R)) (aa R)) (aa R)) (aa R)
def Un:Prop :=
 (aw .geq aR false a2 a0).wp K U (λ v9 U =>
 ao K (aM v9 true) (aC.val a2) (λ v11 =>
 ao K (aM v9 true) (aC.val a1) (λ v12 =>
 ao K (aM v9 true) (aw .leq aR false v11 v12) (λ cn =>
 (bN v9 cn (.bool false)).wp K U (λ cA U =>
 aq R cA U) (aa R))))) (aa R)
def Up:Prop :=
 (aZ a0).wp K U (λ v8 U =>
 (af (some 0) v8).wp K U (λ v9 U =>
 (af (some 0) v9).wp K U (λ v10 U =>
 (af (some 0) v10).wp K U (λ v11 U =>
 (ak aF v11 U).wp K U (λ v12 U =>
 (aE (some (43,6)) none v12 a1).wp K U (λ cA U =>
 (ak (some (true,6)) cA U).wp K U (λ cz U =>
 (aC.cL [.int .u8 0,.str [],.int .i64 0,.int .i64 0,.int .i64 0,.int .i64 0]).wp K U (λ v4 U =>
 (aI (some (true,6)) v4 cz U).wp K U (λ _ U =>
 (aC.cL [.ag]).wp K U (λ v5 U =>
 (aZ a0).wp K U (λ dq U =>
 (af (some 0) dq).wp K U (λ cw U =>
 (ak (some (true,1)) cw U).wp K U (λ dt U =>
 ae K 81 [dt,a1] U (ah (λ v21 U =>
 sN K 1 v21 U (λ eo q U =>
 q.E6 (λ U =>
 (ak aF v5 U).wp K U (λ eO U =>
 (au (some (3,1)) (some [.int .i64 0]) 1 false [(0,eo)]).wp K U (λ fh U =>
 (dB (some (3,1)) false eO fh U).wp K U (λ gi U =>
 (aI aF v5 gi U).wp K U (λ _ U =>
 q.n U) (λ _ _=>False)) (λ _ _=>False)) (λ _ _=>False)) (λ _ _=>False)) U) (λ U =>
 (af (some 0) v4).wp K U (λ gl U =>
 (ak aF gl U).wp K U (λ gj U =>
 ae K 179 [gj] U (ah (λ hU U =>
 ax hU (
 (ak (some (true,6)) v4 U).wp K U (λ ij U =>
 (ak aF v5 U).wp K U (λ v37 U =>
 ae K 180 [a0,ij,v37] U (ah (λ iZ U =>
 aq R (.aK []) U) (aa R))) (aa R)) (aa R)) (
 (af (some 0) v4).wp K U (λ v40 U =>
 (ak aF v40 U).wp K U (λ kM U =>
 ae K 181 [kM] U (ah (λ fD U =>
 ax fD (
 (ak (some (true,6)) v4 U).wp K U (λ lE U =>
 (ak aF v5 U).wp K U (λ mg U =>
 ae K 182 [a0,lE,mg] U (ah (λ v46 U =>
 aq R (.aK []) U) (aa R))) (aa R)) (aa R)) (
 (af (some 0) v4).wp K U (λ ri U =>
 (ak aF ri U).wp K U (λ v49 U =>
 (aw .geq aR true v49 (.int .u8 17)).wp K U (λ ji U =>
 ao K (aM ji true) (af (some 0) v4) (λ mU =>
 ao K (aM ji true) (ak aF mU U) (λ v53 =>
 ao K (aM ji true) (aw .leq aR true v53 (.int .u8 25)) (λ nC =>
 (bN ji nC (.bool false)).wp K U (λ mJ U =>
 ax mJ (
 (ak (some (true,6)) v4 U).wp K U (λ oJ U =>
 (ak aF v5 U).wp K U (λ qn U =>
 ae K 183 [a0,oJ,qn] U (ah (λ v59 U =>
 aq R (.aK []) U) (aa R))) (aa R)) (aa R)) (
 (af (some 0) v4).wp K U (λ nV U =>
 (ak aF nV U).wp K U (λ yC U =>
 (aw .geq aR true yC (.int .u8 9)).wp K U (λ rj U =>
 ao K (aM rj true) (af (some 0) v4) (λ pW =>
 ao K (aM rj true) (ak aF pW U) (λ BQ =>
 ao K (aM rj true) (aw .leq aR true BQ (.int .u8 16)) (λ td =>
 (bN rj td (.bool false)).wp K U (λ sV U =>
 ax sV (
 (ak (some (true,6)) v4 U).wp K U (λ v70 U =>
 (ak aF v5 U).wp K U (λ BS U =>
 ae K 184 [a0,v70,BS] U (ah (λ v72 U =>
 aq R (.aK []) U) (aa R))) (aa R)) (aa R)) (
 (af (some 0) v4).wp K U (λ wY U =>
 (ak aF wY U).wp K U (λ v75 U =>
 ae K 185 [v75] U (ah (λ v76 U =>
 ax v76 (
 (ak (some (true,6)) v4 U).wp K U (λ yD U =>
 (ak aF v5 U).wp K U (λ IL U =>
 ae K 186 [a0,yD,IL] U (ah (λ v80 U =>
 aq R (.aK []) U) (aa R))) (aa R)) (aa R)) (
 (ak (some (true,6)) v4 U).wp K U (λ v28 U =>
 (ak aF v5 U).wp K U (λ ef U =>
 ae K 187 [a0,v28,ef] U (ah (λ v30 U =>
 aq R (.aK []) U) (aa R))) (aa R)) (aa R))) (aa R))) (aa R)) (aa R))) (aa R))))) (aa R)) (aa R)) (aa R))) (aa R))))) (aa R)) (aa R)) (aa R))) (aa R))) (aa R)) (aa R))) (aa R))) (aa R)) (aa R)) (λ i U =>
 J7 (Nat.beq i 0) (
 (af (some 0) v4).wp K U (λ ahG U =>
 (ak aF ahG U).wp K U (λ ahH U =>
 ae K 179 [ahH] U (ah (λ FJ U =>
 ax FJ (
 (ak (some (true,6)) v4 U).wp K U (λ rz U =>
 (ak aF v5 U).wp K U (λ ahJ U =>
 ae K 180 [a0,rz,ahJ] U (ah (λ aks U =>
 aq R (.aK []) U) (aa R))) (aa R)) (aa R)) (
 (af (some 0) v4).wp K U (λ ahK U =>
 (ak aF ahK U).wp K U (λ ahL U =>
 ae K 181 [ahL] U (ah (λ CA U =>
 ax CA (
 (ak (some (true,6)) v4 U).wp K U (λ ahM U =>
 (ak aF v5 U).wp K U (λ ahN U =>
 ae K 182 [a0,ahM,ahN] U (ah (λ akt U =>
 aq R (.aK []) U) (aa R))) (aa R)) (aa R)) (
 (af (some 0) v4).wp K U (λ ahO U =>
 (ak aF ahO U).wp K U (λ Rc U =>
 (aw .geq aR true Rc (.int .u8 17)).wp K U (λ CB U =>
 ao K (aM CB true) (af (some 0) v4) (λ Rf =>
 ao K (aM CB true) (ak aF Rf U) (λ ahR =>
 ao K (aM CB true) (aw .leq aR true ahR (.int .u8 25)) (λ Rh =>
 (bN CB Rh (.bool false)).wp K U (λ ahS U =>
 ax ahS (
 (ak (some (true,6)) v4 U).wp K U (λ ahT U =>
 (ak aF v5 U).wp K U (λ ahU U =>
 ae K 183 [a0,ahT,ahU] U (ah (λ aku U =>
 aq R (.aK []) U) (aa R))) (aa R)) (aa R)) (
 (af (some 0) v4).wp K U (λ ahV U =>
 (ak aF ahV U).wp K U (λ ahW U =>
 (aw .geq aR true ahW (.int .u8 9)).wp K U (λ Jv U =>
 ao K (aM Jv true) (af (some 0) v4) (λ ahX =>
 ao K (aM Jv true) (ak aF ahX U) (λ ahY =>
 ao K (aM Jv true) (aw .leq aR true ahY (.int .u8 16)) (λ ahZ =>
 (bN Jv ahZ (.bool false)).wp K U (λ ah0 U =>
 ax ah0 (
 (ak (some (true,6)) v4 U).wp K U (λ ah1 U =>
 (ak aF v5 U).wp K U (λ ah2 U =>
 ae K 184 [a0,ah1,ah2] U (ah (λ akv U =>
 aq R (.aK []) U) (aa R))) (aa R)) (aa R)) (
 (af (some 0) v4).wp K U (λ ah3 U =>
 (ak aF ah3 U).wp K U (λ ah4 U =>
 ae K 185 [ah4] U (ah (λ ah5 U =>
 ax ah5 (
 (ak (some (true,6)) v4 U).wp K U (λ ah6 U =>
 (ak aF v5 U).wp K U (λ ah7 U =>
 ae K 186 [a0,ah6,ah7] U (ah (λ akw U =>
 aq R (.aK []) U) (aa R))) (aa R)) (aa R)) (
 (ak (some (true,6)) v4 U).wp K U (λ ahE U =>
 (ak aF v5 U).wp K U (λ ahF U =>
 ae K 187 [a0,ahE,ahF] U (ah (λ akr U =>
 aq R (.aK []) U) (aa R))) (aa R)) (aa R))) (aa R))) (aa R)) (aa R))) (aa R))))) (aa R)) (aa R)) (aa R))) (aa R))))) (aa R)) (aa R)) (aa R))) (aa R))) (aa R)) (aa R))) (aa R))) (aa R)) (aa R)) (
 False)) (λ U =>
 aq R (.aK []) U) (λ x U=>(aa R) x U)) (aa R))) (aa R)) (aa R)) (aa R)) (aa R)) (aa R)) (aa R)) (aa R)) (aa R)) (aa R)) (aa R)) (aa R)) (aa R)) (aa R)
def Ur:Prop :=
 ae K 93 [a0] U (ah (λ v9 U =>
 (aw .neq aR true v9 (.int .i64 0)).wp K U (λ v11 U =>
 ax v11 (
 aq R (.aK [(.str w_),v9]) U) (
 (aC.new .box none (.uS 158 [.a8,.ag])).wp K U (λ v5 U =>
 (cr (some false) a0).wp K U (λ cA U =>
 fw 5 [a0,v5,a0,cA,(.int .i64 0)] U λ lp v0 tR cn sU cz U =>
 (aw .lss aR false cz sU).wp K U (λ cQ U =>
 ax cQ (
 (aE (some (51,3)) none cn cz).wp K U (λ cw U =>
 (ak (some (true,3)) cw U).wp K U (λ dt U =>
 (aC.cL [.int .u8 0,.str [],.int .i64 0]).wp K U (λ v7 U =>
 (aI (some (true,3)) v7 dt U).wp K U (λ _ U =>
 jn 6 (λ iM Ri lL qC ahC zK U =>
 (af (some 1) lL).wp K U (λ gl U =>
 (ak aF gl U).wp K U (λ gj U =>
 ae K 125 [Ri,gj] U (ah (λ hU U =>
 (aw .add aR true zK (.int .i64 1)).wp K U (λ iC U =>
 lp iM Ri qC ahC iC U) (aa R)) (aa R))) (aa R)) (aa R)) λ j =>
 (λ ar:St =>
 az K (aw .gtr aR true cz (.int .i64 0)) (λ v21 =>
 ao K (aM v21 true) (aC.val v0) (λ eO =>
 ao K (aM v21 true) (aC.val cz) (λ v24 =>
 ao K (aM v21 true) (aw .sub aR true v24 (.int .i64 1)) (λ fh =>
 ao K (aM v21 true) (aE (some (51,3)) none eO fh) (λ gi =>
 ao K (aM v21 true) (ak (some (true,3)) gi ar) (λ dX =>
 ao K (aM v21 true) (ak (some (true,3)) v7 ar) (λ v28 =>
 ao K (aM v21 true) (aC.enter 188 [dX,v28]) (λ ef =>
 az K (bN v21 ef (.bool false)) (λ v30 =>
 ax v30 (
 ae K 189 [tR,(.int .u8 32)] U (ah (λ v31 U =>
 j v0 tR v7 cn sU cz U) (aa R))) (
 j v0 tR v7 cn sU cz U))))))))))) U) (aa R)) (aa R)) (aa R)) (aa R)) (
 ae K 126 [tR] U (ah (λ ij U =>
 (aw .gtr aR true ij (.int .i64 2500)).wp K U (λ v37 U =>
 ax v37 (
 aq R (.aK [(.str w_),(.int .i64 5)]) U) (
 ae K 127 [tR] U (ah (λ iZ U =>
 aq R (.aK [iZ,(.int .i64 0)]) U) (aa R)))) (aa R)) (aa R)))) (aa R)) (aa R)) (aa R))) (aa R)) (aa R))
def Ut:Prop :=
 ae K 190 [a0] U (ah (λ v7 U =>
 (aZ a0).wp K U (λ v10 U =>
 (af (some 1) v10).wp K U (λ v11 U =>
 (ak aF v11 U).wp K U (λ v12 U =>
 (dB (some (5,1)) false v12 a1 U).wp K U (λ cA U =>
 (aZ a0).wp K U (λ cz U =>
 (af (some 1) cz).wp K U (λ cQ U =>
 (aI aF cQ cA U).wp K U (λ _ U =>
 (cr (some true) a1).wp K U (λ cw U =>
 aq R (.aK [cw,.dE]) U) (aa R)) (aa R)) (aa R)) (aa R)) (aa R)) (aa R)) (aa R)) (aa R)) (aa R))
def Uv:Prop :=
 (aZ a0).wp K U (λ v4 U =>
 (af (some 1) v4).wp K U (λ v5 U =>
 (ak aF v5 U).wp K U (λ v6 U =>
 (cr (some false) v6).wp K U (λ v7 U =>
 aq R v7 U) (aa R)) (aa R)) (aa R)) (aa R)
def Ux:Prop :=
 (fL a0).wp K U (λ v3 U =>
 (fL a1).wp K U (λ v4 U =>
 (aC.cL [.bool false]).wp K U (λ v6 U =>
 (af (some 0) v3).wp K U (λ cn U =>
 (af (some 0) cn).wp K U (λ cA U =>
 (ak aF cA U).wp K U (λ cz U =>
 (ak aF v4 U).wp K U (λ cQ U =>
 (aE (some (43,6)) none cz cQ).wp K U (λ dq U =>
 (ak (some (true,6)) dq U).wp K U (λ cw U =>
 (aC.cL [.int .u8 0,.str [],.int .i64 0,.int .i64 0,.int .i64 0,.int .i64 0]).wp K U (λ v7 U =>
 (aI (some (true,6)) v7 cw U).wp K U (λ _ U =>
 (af (some 0) v7).wp K U (λ v21 U =>
 (ak aF v21 U).wp K U (λ eo U =>
 (eQ (some (.i,204)) (some (.agg [.bool false,.bool false,.bool false,.ag])) a2 eo true U).wp K U (λ eO U =>
 (aU eO 0).wp K U (λ v24 U =>
 (aU eO 1).wp K U (λ fh U =>
 (aC.cL [.bool false,.bool false,.bool false,.ag]).wp K U (λ v8 U =>
 (aI (some (true,4)) v8 v24 U).wp K U (λ _ U =>
 (lj .not fh).wp K U (λ dX U =>
 ao K (aM dX false) (af (some 0) v3) (λ ef =>
 ao K (aM dX false) (af (some 0) ef) (λ v30 =>
 ao K (aM dX false) (ak aF v30 U) (λ v31 =>
 ao K (aM dX false) (cr (some false) v31) (λ gl =>
 ao K (aM dX false) (ak aF v4 U) (λ gj =>
 ao K (aM dX false) (aw .sub aR false gl gj) (λ hU =>
 ao K (aM dX false) (af (some 5) v7) (λ iC =>
 ao K (aM dX false) (ak aF iC U) (λ ij =>
 ao K (aM dX false) (aC.enter 122 [(.int .i64 1),hU,ij]) (λ v37 =>
 ao K (aM dX false) (lj .not v37) (λ iZ =>
 (bN dX (.bool true) iZ).wp K U (λ lD U =>
 ao K (aM lD false) (af (some 0) v8) (λ kM =>
 ao K (aM lD false) (ak aF kM U) (λ fD =>
 ao K (aM lD false) (af (some 1) v7) (λ kj =>
 ao K (aM lD false) (ak aF kj U) (λ lE =>
 ao K (aM lD false) (aw .neq aR true lE (.str w_)) (λ mg =>
 ao K (aM lD false) (aw .neq (BT.mk true false false none false) false fD mg) (λ v46 =>
 (bN lD (.bool true) v46).wp K U (λ nB U =>
 ao K (aM nB false) (af (some 0) v8) (λ v49 =>
 ao K (aM nB false) (ak aF v49 U) (λ ji =>
 ao K (aM nB false) (aC.val ji) (λ v51 =>
 ao K (aM v51 true) (af (some 1) v7) (λ mU =>
 ao K (aM v51 true) (ak aF mU U) (λ v53 =>
 ao K (aM v51 true) (aC.enter 208 [v53]) (λ nC =>
 ao K (aM v51 true) (lj .not nC) (λ mJ =>
 ao K (aM nB false) (bN v51 mJ (.bool false)) (λ oI =>
 (bN nB (.bool true) oI).wp K U (λ oJ U =>
 ax oJ (
 (aI aF v6 (.bool false) U).wp K U (λ _ U =>
 bD aF v6 U λ r0 =>
 aq R r0 U) (aa R)) (
 (af (some 2) v7).wp K U (λ qn U =>
 (ak aF qn U).wp K U (λ v59 U =>
 ae K 122 [(.int .i64 0),(.int .i64 1000000),v59] U (ah (λ yB U =>
 (lj .not yB).wp K U (λ nV U =>
 ao K (aM nV false) (af (some 3) v7) (λ rj =>
 ao K (aM nV false) (ak aF rj U) (λ qo =>
 ao K (aM nV false) (aC.enter 122 [(.int .i64 0),(.int .i64 1000000),qo]) (λ pW =>
 ao K (aM nV false) (lj .not pW) (λ BQ =>
 (bN nV (.bool true) BQ).wp K U (λ td U =>
 ao K (aM td false) (af (some 1) v8) (λ sh =>
 ao K (aM td false) (ak aF sh U) (λ v70 =>
 ao K (aM td false) (lj .not v70) (λ BS =>
 ao K (aM td false) (aC.val BS) (λ v72 =>
 ao K (aM v72 true) (af (some 2) v7) (λ Di =>
 ao K (aM v72 true) (ak aF Di U) (λ wY =>
 ao K (aM v72 true) (aw .neq aR true wY (.int .i64 0)) (λ v75 =>
 ao K (aM td false) (bN v72 v75 (.bool false)) (λ v76 =>
 (bN td (.bool true) v76).wp K U (λ IK U =>
 ao K (aM IK false) (af (some 2) v8) (λ IL =>
 ao K (aM IK false) (ak aF IL U) (λ v80 =>
 ao K (aM IK false) (lj .not v80) (λ IM =>
 ao K (aM IK false) (aC.val IM) (λ IN =>
 ao K (aM IN true) (af (some 3) v7) (λ v83 =>
 ao K (aM IN true) (ak aF v83 U) (λ v84 =>
 ao K (aM IN true) (aw .neq aR true v84 (.int .i64 0)) (λ v85 =>
 ao K (aM IK false) (bN IN v85 (.bool false)) (λ v86 =>
 (bN IK (.bool true) v86).wp K U (λ v87 U =>
 ax v87 (
 (aI aF v6 (.bool false) U).wp K U (λ _ U =>
 bD aF v6 U λ o8 =>
 aq R o8 U) (aa R)) (
 (aC.cL [.ag]).wp K U (λ v10 U =>
 (ak aF v4 U).wp K U (λ v88 U =>
 (aw .add aR true v88 (.int .i64 1)).wp K U (λ v89 U =>
 (aC.cL [.int .i64 0]).wp K U (λ v11 U =>
 (aI aF v11 v89 U).wp K U (λ _ U =>
 (ak (some (true,1)) v3 U).wp K U (λ v90 U =>
 (ak aF v4 U).wp K U (λ v91 U =>
 ae K 81 [v90,v91] U (ah (λ v92 U =>
 sN K 1 v92 U (λ v93 q U =>
 q.E6 (λ U =>
 (λ ar:St =>
 az K (ak aF v10 ar) (λ v94 =>
 az K (af (some 0) v3) (λ v95 =>
 az K (af (some 0) v95) (λ O7 =>
 az K (ak aF O7 ar) (λ v97 =>
 az K (aE (some (43,6)) none v97 v93) (λ Wl =>
 az K (af (some 0) Wl) (λ Q4 =>
 az K (ak aF Q4 ar) (λ Mr =>
 az K (au (some (5,1)) (some [.int .u8 0]) 1 false [(0,Mr)]) (λ xG =>
 (dB (some (5,1)) false v94 xG U).wp K U (λ ajH U=>df ((eE Q4++[])++((eE O7++[])++((eE v10++[])++[]))) ar U /\
 (aI aF v10 ajH U).wp K U (λ _ U =>
 (λ lZ:St =>
 az K (ak aF v4 lZ) (λ Ms =>
 az K (af (some 5) v7) (λ v105 =>
 az K (ak aF v105 lZ) (λ Q5 =>
 az K (aw .add aR false Ms Q5) (λ v107 =>
 az K (aw .sub aR false v107 v93) (λ v109 =>
 az K (af (some 0) v3) (λ YX =>
 az K (af (some 0) YX) (λ YY =>
 az K (ak aF YY lZ) (λ YZ =>
 az K (aE (some (43,6)) none YZ v93) (λ Y0 =>
 az K (af (some 5) Y0) (λ ajI =>
 az K (ak aF ajI lZ) (λ Mt =>
 az K (aC.enter 122 [(.int .i64 1),v109,Mt]) (λ v117 =>
 az K (lj .not v117) (λ Y1 =>
 ax Y1 (
 (aI aF v6 (.bool false) U).wp K U (λ _ U =>
 q.r U) (λ _ _=>False)) (
 (af (some 0) v3).wp K U (λ ajJ U =>
 (af (some 0) ajJ).wp K U (λ Y2 U =>
 (ak aF Y2 U).wp K U (λ ajK U =>
 (aE (some (43,6)) none ajK v93).wp K U (λ v124 U =>
 (af (some 5) v124).wp K U (λ Y3 U =>
 (ak aF Y3 U).wp K U (λ Q6 U =>
 (aw .add aR false v93 Q6).wp K U (λ v127 U =>
 (aI aF v11 v127 U).wp K U (λ _ U =>
 q.n U) (λ _ _=>False)) (λ _ _=>False)) (λ _ _=>False)) (λ _ _=>False)) (λ _ _=>False)) (λ _ _=>False)) (λ _ _=>False)) (λ _ _=>False)))))))))))))))) U) (λ _ _=>False)) (λ _ _=>False)))))))))) U) U) (λ U =>
 (ak aF v11 U).wp K U (λ ajM U =>
 (ak aF v4 U).wp K U (λ Y4 U =>
 (af (some 5) v7).wp K U (λ v130 U =>
 (ak aF v130 U).wp K U (λ v131 U =>
 (aw .add aR false Y4 v131).wp K U (λ ajN U =>
 (aw .eql aR false ajM ajN).wp K U (λ GS U =>
 ao K (aM GS true) (ak aF v10 U) (λ Y5 =>
 ao K (aM GS true) (af (some 3) v8) (λ Y6 =>
 ao K (aM GS true) (ak aF Y6 U) (λ Y7 =>
 ax (aM GS true) (
 ae K 209 [Y5,Y7] U (ah (λ v138 U =>
 (bN GS v138 (.bool false)).wp K U (λ v139 U =>
 (aI aF v6 v139 U).wp K U (λ _ U =>
 bD aF v6 U λ rM =>
 aq R rM U) (aa R)) (aa R)) (aa R))) (
 (bN GS (.aK []) (.bool false)).wp K U (λ afO U =>
 (aI aF v6 afO U).wp K U (λ _ U =>
 bD aF v6 U λ zC =>
 aq R zC U) (aa R)) (aa R)))))) (aa R)) (aa R)) (aa R)) (aa R)) (aa R)) (aa R)) (λ i U =>
 J7 (Nat.beq i 0) (
 (ak aF v11 U).wp K U (λ afF U =>
 (ak aF v4 U).wp K U (λ afG U =>
 (af (some 5) v7).wp K U (λ afH U =>
 (ak aF afH U).wp K U (λ afI U =>
 (aw .add aR false afG afI).wp K U (λ afJ U =>
 (aw .eql aR false afF afJ).wp K U (λ yA U =>
 ao K (aM yA true) (ak aF v10 U) (λ afK =>
 ao K (aM yA true) (af (some 3) v8) (λ afL =>
 ao K (aM yA true) (ak aF afL U) (λ afM =>
 ax (aM yA true) (
 ae K 209 [afK,afM] U (ah (λ afN U =>
 (bN yA afN (.bool false)).wp K U (λ afP U =>
 (aI aF v6 afP U).wp K U (λ _ U =>
 bD aF v6 U λ LG =>
 aq R LG U) (aa R)) (aa R)) (aa R))) (
 (bN yA (.aK []) (.bool false)).wp K U (λ afQ U =>
 (aI aF v6 afQ U).wp K U (λ _ U =>
 bD aF v6 U λ LH =>
 aq R LH U) (aa R)) (aa R)))))) (aa R)) (aa R)) (aa R)) (aa R)) (aa R)) (aa R)) (
 False)) (λ U =>
 bD aF v6 U λ ajs =>
 aq R ajs U) (λ x U=>(aa R) x U)) (aa R))) (aa R)) (aa R)) (aa R)) (aa R)) (aa R)) (aa R)) (aa R))) (aa R)))))))))) (aa R)))))))))) (aa R)))))) (aa R)) (aa R))) (aa R)) (aa R))) (aa R)))))))))) (aa R)))))))) (aa R)))))))))))) (aa R)) (aa R)) (aa R)) (aa R)) (aa R)) (aa R)) (aa R)) (aa R)) (aa R)) (aa R)) (aa R)) (aa R)) (aa R)) (aa R)) (aa R)) (aa R)) (aa R)) (aa R)) (aa R)
def Uz:Prop :=
 ae K 210 [a0,a1] U (ah (λ v10 U =>
 (aw .eql aR true v10 (.int .i64 (-1))).wp K U (λ v12 U =>
 ax v12 (
 aq R a0 U) (
 (aw .add aR true v10 (.int .i64 1)).wp K U (λ cz U =>
 fw 4 [a0,a1,v10,cz] U λ lp v0 v1 v5 v6 U =>
 (cr (some false) v0).wp K U (λ cw U =>
 (aw .lss aR false v6 cw).wp K U (λ dt U =>
 ax dt (
 jn 4 (λ iM nQ tR pe U =>
 (aw .add aR true pe (.int .i64 1)).wp K U (λ v21 U =>
 lp iM nQ tR v21 U) (aa R)) λ j =>
 (aE (some (3,1)) none v0 v6).wp K U (λ v24 U =>
 (ak aF v24 U).wp K U (λ fh U =>
 (jz K.P v1 [fh]).wp K U (λ v28 U =>
 (lj .not v28).wp K U (λ ef U =>
 ax ef (
 (aE (some (3,1)) none v0 v5).wp K U (λ gj U =>
 (aI aF gj fh U).wp K U (λ _ U =>
 (aw .add aR true v5 (.int .i64 1)).wp K U (λ iC U =>
 j v0 v1 iC v6 U) (aa R)) (aa R)) (aa R)) (
 j v0 v1 v5 v6 U)) (aa R)) (aa R)) (aa R)) (aa R)) (
 (eD false (some (3,1)) v0 (some v5) none).wp K U (λ iZ U =>
 (Em (some (3,1)) (some [.int .i64 0]) iZ U).wp K U (λ _ U =>
 (eD false (some (3,1)) v0 none (some v5)).wp K U (λ kM U =>
 aq R kM U) (aa R)) (aa R)) (aa R))) (aa R)) (aa R)) (aa R))) (aa R)) (aa R))
def UB:Prop :=
 (ak aF a1 U).wp K U (λ v5 U =>
 (aw .leq aR false a0 v5).wp K U (λ v6 U =>
 aq R v6 U) (aa R)) (aa R)
def UD:Prop :=
 (au (some (178,1)) (some [.int .i64 0]) 1 false [(0,(.int .i64 0))]).wp K U (λ v4 U =>
 ae K 151 [a0,v4] U (ah (λ v5 U =>
 (lj .not v5).wp K U (λ v6 U =>
 aq R v6 U) (aa R)) (aa R))) (aa R)
def UF:Prop :=
 fw 4 [a0,a1,a2,(.int .i64 0)] U λ lp v0 v1 v2 v4 U =>
 (ak aF v1 U).wp K U (λ v9 U =>
 (cr (some true) v9).wp K U (λ v10 U =>
 (aw .lss aR false v4 v10).wp K U (λ v11 U =>
 ax v11 (
 (ak aF v1 U).wp K U (λ v12 U =>
 (jf true none none v12 v4).wp K U (λ cA U =>
 jn 6 (λ iM nQ ko oH sU v24 U =>
 ax v24 (
 (aw .add aR true oH (.int .i64 1)).wp K U (λ v28 U =>
 lp iM nQ ko v28 U) (aa R)) (
 (aw .eql aR true sU (.int .u8 126)).wp K U (λ v30 U =>
 ax v30 (
 (ak aF nQ U).wp K U (λ gl U =>
 (eD true none gl (some oH) none).wp K U (λ hU U =>
 ae K 148 [hU,(.str sW)] U (ah (λ iC U =>
 (aU iC 0).wp K U (λ ij U =>
 (aU iC 1).wp K U (λ v37 U =>
 (aU iC 2).wp K U (λ iZ U =>
 (jz K.P iM [oH,ij]).wp K U (λ fD U =>
 (lj .not fD).wp K U (λ kj U =>
 ax kj (
 aq R (.aK []) U) (
 (cr (some true) ij).wp K U (λ v46 U =>
 (aw .add aR false oH v46).wp K U (λ nB U =>
 lp iM nQ ko nB U) (aa R)) (aa R))) (aa R)) (aa R)) (aa R)) (aa R)) (aa R)) (aa R))) (aa R)) (aa R)) (
 (jz K.P iM [oH,(.str w_)]).wp K U (λ dq U =>
 (lj .not dq).wp K U (λ cw U =>
 ax cw (
 aq R (.aK []) U) (
 (ak aF ko U).wp K U (λ v20 U =>
 (jz K.P v20 [oH]).wp K U (λ eo U =>
 (aw .add aR false oH eo).wp K U (λ eO U =>
 lp iM nQ ko eO U) (aa R)) (aa R)) (aa R))) (aa R)) (aa R))) (aa R))) λ j =>
 (aw .eql aR true cA (.int .u8 32)).wp K U (λ fh U =>
 ax fh (
 j v0 v1 v2 v4 cA fh U) (
 (aw .eql aR true cA (.int .u8 10)).wp K U (λ gi U =>
 j v0 v1 v2 v4 cA gi U) (aa R))) (aa R)) (aa R)) (aa R)) (
 aq R (.aK []) U)) (aa R)) (aa R)) (aa R)
def afm:Prop :=
 ae K 212 [a0,a1] U (ah (λ v9 U =>
 (aU v9 0).wp K U (λ v10 U =>
 (aU v9 1).wp K U (λ v11 U =>
 (aU v9 2).wp K U (λ v12 U =>
 aq R (.aK [v10,v11,v12]) U) (aa R)) (aa R)) (aa R)) (aa R))
def UI:Prop :=
 fw 2 [a0,(.int .i64 0)] U λ lp v0 v2 U =>
 (cr (some true) v0).wp K U (λ v5 U =>
 (aw .lss aR false v2 v5).wp K U (λ v6 U =>
 ao K (aM v6 true) (aC.val v0) (λ v8 =>
 ao K (aM v6 true) (aC.val v2) (λ v9 =>
 ao K (aM v6 true) (jf true none none v8 v9) (λ v10 =>
 ao K (aM v6 true) (au (some (178,1)) (some [.int .i64 0]) 3 false [(0,(.int .i64 2)),(1,(.int .i64 3)),(2,(.int .i64 4))]) (λ v11 =>
 ao K (aM v6 true) (aC.enter 151 [v10,v11]) (λ v12 =>
 (bN v6 v12 (.bool false)).wp K U (λ cn U =>
 ax cn (
 (aw .add aR true v2 (.int .i64 1)).wp K U (λ cz U =>
 lp v0 cz U) (aa R)) (
 aq R v2 U)) (aa R))))))) (aa R)) (aa R)
def UK:Prop :=
 (aC.cL [.int .u8 0,.str [],.int .i64 0]).wp K U (λ v2 U =>
 (ek none (some [.str [],.str []]) (some (2,9,1)) [(0,(.str bQ)),(1,(.str fY))]).wp K U (λ v6 U =>
 fw 4 [a0,v2,v6,(.int .i64 0)] U λ lp v0 ko pe v7 U =>
 (aw .lss aR true v7 (.int .i64 2)).wp K U (λ v8 U =>
 ax v8 (
 (jf false (some (2,9,1)) aF pe v7).wp K U (λ v9 U =>
 ae K 213 [v0,v9] U (ah (λ v12 U =>
 ax v12 (
 (ek (some [(0,1),(1,1),(2,1)]) (some [.int .u8 0,.str [],.int .i64 0]) none [(0,(.int .u8 4)),(1,v9)]).wp K U (λ cA U =>
 (aI (some (true,3)) ko cA U).wp K U (λ _ U =>
 bD (some (true,3)) ko U λ r0 =>
 aq R (.aK [r0,(.int .i64 0)]) U) (aa R)) (aa R)) (
 (aw .add aR true v7 (.int .i64 1)).wp K U (λ cz U =>
 lp v0 ko pe cz U) (aa R))) (aa R))) (aa R)) (
 (aw .eql aR true v0 (.str w_)).wp K U (λ dq U =>
 ao K (aM dq false) (aC.val v0) (λ dt =>
 ao K (aM dq false) (jf true none none dt (.int .i64 0)) (λ v20 =>
 ao K (aM dq false) (aC.enter 214 [(.str eN),v20]) (λ v21 =>
 ao K (aM dq false) (aw .lss aR true v21 (.int .i64 0)) (λ eo =>
 (bN dq (.bool true) eo).wp K U (λ eO U =>
 ax eO (
 (ek (some [(0,1),(1,1),(2,1)]) (some [.int .u8 0,.str [],.int .i64 0]) none []).wp K U (λ v24 U =>
 (aI (some (true,3)) ko v24 U).wp K U (λ _ U =>
 bD (some (true,3)) ko U λ o8 =>
 aq R (.aK [o8,(.int .i64 4)]) U) (aa R)) (aa R)) (
 (eD true none v0 none (some (.int .i64 1))).wp K U (λ gi U =>
 (ek (some [(0,1),(1,1),(2,1)]) (some [.int .u8 0,.str [],.int .i64 0]) none [(0,(.int .u8 4)),(1,gi)]).wp K U (λ dX U =>
 (aI (some (true,3)) ko dX U).wp K U (λ _ U =>
 bD (some (true,3)) ko U λ rM =>
 aq R (.aK [rM,(.int .i64 0)]) U) (aa R)) (aa R)) (aa R))) (aa R)))))) (aa R))) (aa R)) (aa R)) (aa R)
def afn:Prop :=
 ae K 216 [a0] U (ah (λ v7 U =>
 ae K 215 [a1,v7] U (ah (λ v8 U =>
 aq R v8 U) (aa R))) (aa R))
def UN:Prop :=
 (cr (some true) a0).wp K U (λ v6 U =>
 fw 4 [a0,(.int .i64 0),v6,(.int .i64 0)] U λ lp v0 v3 pe v7 U =>
 (aw .lss aR false v7 pe).wp K U (λ v8 U =>
 ax v8 (
 (jf true none none v0 v7).wp K U (λ v12 U =>
 (au (some (178,1)) (some [.int .i64 0]) 1 false [(0,(.int .i64 2))]).wp K U (λ cn U =>
 ae K 151 [v12,cn] U (ah (λ cA U =>
 (lj .not cA).wp K U (λ cz U =>
 ax cz (
 aq R (.int .i64 4) U) (
 (aw .mul aR true (.int .i64 10) v3).wp K U (λ dq U =>
 (jf true none none v0 v7).wp K U (λ v20 U =>
 (aw .sub aR true v20 (.int .u8 48)).wp K U (λ v21 U =>
 (B7 (some .i64) true false false v21).wp K U (λ eo U =>
 (aw .add aR false dq eo).wp K U (λ eO U =>
 (Bh eO (.int .i64 1000001)).wp K U (λ v24 U =>
 (aw .add aR true v7 (.int .i64 1)).wp K U (λ fh U =>
 lp v0 v24 pe fh U) (aa R)) (aa R)) (aa R)) (aa R)) (aa R)) (aa R)) (aa R))) (aa R)) (aa R))) (aa R)) (aa R)) (
 (cr (some true) v0).wp K U (λ v28 U =>
 (aw .gtr aR true v28 (.int .i64 1)).wp K U (λ ef U =>
 ao K (aM ef true) (aC.val v0) (λ v31 =>
 ao K (aM ef true) (jf true none none v31 (.int .i64 0)) (λ gl =>
 ao K (aM ef true) (aw .eql aR true gl (.int .u8 48)) (λ gj =>
 (bN ef gj (.bool false)).wp K U (λ hU U =>
 ax hU (
 aq R (.int .i64 4) U) (
 (aw .gtr aR true v3 (.int .i64 1000000)).wp K U (λ v37 U =>
 ax v37 (
 aq R (.int .i64 3) U) (
 aq R (.int .i64 0) U)) (aa R))) (aa R))))) (aa R)) (aa R))) (aa R)) (aa R)
def aal:Prop :=
 (fL a0).wp K U (λ v1 U =>
 (af (some 0) v1).wp K U (λ v4 U =>
 (ak aF v4 U).wp K U (λ v5 U =>
 (cr (some false) v5).wp K U (λ v6 U =>
 (aw .gtr aR true v6 (.int .i64 900)).wp K U (λ v7 U =>
 ax v7 (
 aq R (.int .i64 5) U) (
 (ak (some (true,1)) v1 U).wp K U (λ v9 U =>
 (ek (some [(0,1)]) (some [.ag]) none [(0,v9)]).wp K U (λ v10 U =>
 ae K 68 [v10] U (ah (λ v11 U =>
 (lj .not v11).wp K U (λ v12 U =>
 ax v12 (
 aq R (.int .i64 4) U) (
 (ak (some (true,1)) v1 U).wp K U (λ cA U =>
 ae K 69 [cA] U (ah (λ cz U =>
 ax cz (
 aq R (.int .i64 5) U) (
 aq R (.int .i64 0) U)) (aa R))) (aa R))) (aa R)) (aa R))) (aa R)) (aa R))) (aa R)) (aa R)) (aa R)) (aa R)) (aa R)
def aam:Prop :=
 (fL a0).wp K U (λ v1 U =>
 (aC.cL [.ag]).wp K U (λ v2 U =>
 (aC.cL [.int .i64 0]).wp K U (λ v3 U =>
 (aC.cL [.int .i64 0]).wp K U (λ v4 U =>
 (ak aF v1 U).wp K U (λ cA U =>
 ae K 74 [cA] U (ah (λ cz U =>
 (aU cz 0).wp K U (λ cQ U =>
 (aU cz 1).wp K U (λ dq U =>
 (aw .neq aR true dq (.int .i64 0)).wp K U (λ dt U =>
 ax dt (
 (aI aF v2 .ag U).wp K U (λ _ U =>
 (aI aF v3 cQ U).wp K U (λ _ U =>
 (aI aF v4 dq U).wp K U (λ _ U =>
 bD aF v2 U λ r0 =>
 bD aF v3 U λ r1 =>
 bD aF v4 U λ r2 =>
 aq R (.aK [r0,r1,r2]) U) (aa R)) (aa R)) (aa R)) (
 (aC.cL [.ag]).wp K U (λ v7 U =>
 (ak aF v1 U).wp K U (λ eO U =>
 ae K 76 [eO,(.func (.func 75) [] [v7])] U (ah (λ fh U =>
 sN K 2 fh U (λ gi dX q U =>
 q.E6 (λ U =>
 (aw .neq aR true dX (.str w_)).wp K U (λ ef U =>
 ax ef (
 q.n U) (
 (ak aF v1 U).wp K U (λ v31 U =>
 (eD true none v31 (some gi) none).wp K U (λ gj U =>
 ae K 77 [gj] U (ah (λ hU U =>
 (aU hU 0).wp K U (λ iC U =>
 (aU hU 1).wp K U (λ ij U =>
 (aC.cL [.int .u8 0,.str [],.int .i64 0]).wp K U (λ v11 U =>
 (aI (some (true,3)) v11 iC U).wp K U (λ _ U =>
 jn 7 (λ ko zL oH lL v9 FG v12 U =>
 (aw .neq aR true v12 (.int .i64 0)).wp K U (λ mg U =>
 ax mg (
 (aI aF ko .ag U).wp K U (λ _ U =>
 (aI aF zL v9 U).wp K U (λ _ U =>
 (aI aF oH v12 U).wp K U (λ _ U =>
 q.r U) (λ _ _=>False)) (λ _ _=>False)) (λ _ _=>False)) (
 (af (some 2) FG).wp K U (λ v49 U =>
 (aI aF v49 v9 U).wp K U (λ _ U =>
 (ak aF lL U).wp K U (λ ji U =>
 (ak (some (true,3)) FG U).wp K U (λ v51 U =>
 (au (some (51,3)) (some [.int .u8 0,.str [],.int .i64 0]) 1 false [(0,v51)]).wp K U (λ mU U =>
 (dB (some (51,3)) false ji mU U).wp K U (λ v53 U =>
 (aI aF lL v53 U).wp K U (λ _ U =>
 q.n U) (λ _ _=>False)) (λ _ _=>False)) (λ _ _=>False)) (λ _ _=>False)) (λ _ _=>False)) (λ _ _=>False)) (λ _ _=>False))) (λ _ _=>False)) λ j =>
 (aw .eql aR true ij (.int .i64 0)).wp K U (λ iZ U =>
 ao K (aM iZ true) (ak aF v7 U) (λ v40 =>
 ao K (aM iZ true) (cr (some false) v40) (λ kM =>
 ao K (aM iZ true) (aw .eql aR true kM (.int .i64 900)) (λ fD =>
 (bN iZ fD (.bool false)).wp K U (λ kj U =>
 ax kj (
 j v2 v3 v4 v7 gi v11 (.int .i64 5) U) (
 j v2 v3 v4 v7 gi v11 ij U)) (λ _ _=>False))))) (λ _ _=>False)) (λ _ _=>False)) (λ _ _=>False)) (λ _ _=>False)) (λ _ _=>False)) (λ _ _=>False))) (λ _ _=>False)) (λ _ _=>False))) (λ _ _=>False)) U) (λ U =>
 (ak aF v7 U).wp K U (λ nC U =>
 (aI aF v2 nC U).wp K U (λ _ U =>
 (aI aF v3 (.int .i64 0) U).wp K U (λ _ U =>
 (aI aF v4 (.int .i64 0) U).wp K U (λ _ U =>
 bD aF v2 U λ o8 =>
 bD aF v3 U λ LI =>
 bD aF v4 U λ ajv =>
 aq R (.aK [o8,LI,ajv]) U) (aa R)) (aa R)) (aa R)) (aa R)) (λ i U =>
 J7 (Nat.beq i 0) (
 (ak aF v7 U).wp K U (λ Rh U =>
 (aI aF v2 Rh U).wp K U (λ _ U =>
 (aI aF v3 (.int .i64 0) U).wp K U (λ _ U =>
 (aI aF v4 (.int .i64 0) U).wp K U (λ _ U =>
 bD aF v2 U λ rM =>
 bD aF v3 U λ LJ =>
 bD aF v4 U λ ajw =>
 aq R (.aK [rM,LJ,ajw]) U) (aa R)) (aa R)) (aa R)) (aa R)) (
 False)) (λ U =>
 bD aF v2 U λ zC =>
 bD aF v3 U λ X6 =>
 bD aF v4 U λ ajx =>
 aq R (.aK [zC,X6,ajx]) U) (λ x U=>(aa R) x U)) (aa R))) (aa R)) (aa R))) (aa R)) (aa R)) (aa R)) (aa R))) (aa R)) (aa R)) (aa R)) (aa R)) (aa R)
def aan:Prop :=
 (fL a0).wp K U (λ v1 U =>
 (aC.cL [.ag]).wp K U (λ v2 U =>
 (ak (some (true,1)) v1 U).wp K U (λ v7 U =>
 ae K 26 [v7] U (ah (λ v8 U =>
 ae K 40 [v8] U (ah (λ v9 U =>
 (aU v9 0).wp K U (λ v10 U =>
 (aU v9 1).wp K U (λ v11 U =>
 (aC.cL [.ag]).wp K U (λ v4 U =>
 (aI (some (true,1)) v4 v10 U).wp K U (λ _ U =>
 (ak (some (true,1)) v4 U).wp K U (λ v12 U =>
 (aw .eql aR true v11 (.int .i64 0)).wp K U (λ cA U =>
 (aI (some (true,1)) v2 v12 U).wp K U (λ _ U =>
 bD (some (true,1)) v2 U λ r0 =>
 aq R (.aK [r0,cA]) U) (aa R)) (aa R)) (aa R)) (aa R)) (aa R)) (aa R)) (aa R)) (aa R))) (aa R))) (aa R)) (aa R)) (aa R)
def aao:Prop :=
 (fL a0).wp K U (λ v1 U =>
 (aC.cL [.ag]).wp K U (λ v2 U =>
 (ak (some (true,1)) v1 U).wp K U (λ v4 U =>
 ae K 87 [v4,(.int .i64 0),(.func (.func 88) [] [])] U (ah (λ v5 U =>
 (aU v5 0).wp K U (λ v6 U =>
 (aU v5 1).wp K U (λ v7 U =>
 (aI (some (true,1)) v2 v6 U).wp K U (λ _ U =>
 bD (some (true,1)) v2 U λ r0 =>
 aq R (.aK [r0,v7]) U) (aa R)) (aa R)) (aa R)) (aa R))) (aa R)) (aa R)) (aa R)
def aap:Prop :=
 (cr (some false) a0).wp K U (λ v7 U =>
 (cr (some false) a1).wp K U (λ v9 U =>
 (aw .neq aR false v7 v9).wp K U (λ v10 U =>
 ax v10 (
 aq R (.bool false) U) (
 fw 3 [a0,a1,(.int .i64 0)] U λ lp v0 v1 v5 U =>
 (cr (some false) v0).wp K U (λ cn U =>
 (aw .lss aR false v5 cn).wp K U (λ cA U =>
 ax cA (
 (λ ar:St =>
 az K (aE (some (43,6)) none v0 v5) (λ dt =>
 az K (ak (some (true,6)) dt ar) (λ v20 =>
 az K (aE (some (43,6)) none v1 v5) (λ eO =>
 az K (ak (some (true,6)) eO ar) (λ v24 =>
 az K (aw .neq (BT.mk false false false (some [.i,.s,.i,.i,.i,.i]) false) false v20 v24) (λ fh =>
 ax fh (
 aq R (.bool false) U) (
 (aw .add aR true v5 (.int .i64 1)).wp K U (λ cQ U =>
 lp v0 v1 cQ U) (aa R)))))))) U) (
 aq R (.bool true) U)) (aa R)) (aa R))) (aa R)) (aa R)) (aa R)
def aag:Prop :=
 (aC.cL [.ag]).wp K U (λ v2 U =>
 ae K 53 [a0] U (ah (λ cz U =>
 (aU cz 0).wp K U (λ cQ U =>
 (aU cz 1).wp K U (λ dq U =>
 (aU cz 2).wp K U (λ cw U =>
 (aw .neq aR true cw (.int .i64 0)).wp K U (λ v20 U =>
 ax v20 (
 (ek (some [(0,1)]) (some [.ag]) none []).wp K U (λ v21 U =>
 (aI (some (true,1)) v2 v21 U).wp K U (λ _ U =>
 bD (some (true,1)) v2 U λ r0 =>
 aq R (.aK [r0,dq,cw]) U) (aa R)) (aa R)) (
 fw 3 [v2,cQ,.ag] U λ lp ko v5 v8 U =>
 (λ ar:St =>
 az K (aZ v5) (λ fh =>
 az K (af (some 1) fh) (λ gi =>
 az K (ak aF gi ar) (λ dX =>
 az K (aZ v5) (λ ef =>
 az K (af (some 0) ef) (λ v30 =>
 az K (ak aF v30 ar) (λ v31 =>
 az K (cr (some false) v31) (λ gl =>
 az K (aw .lss aR false dX gl) (λ gj =>
 ax gj (
 ae K 54 [v5,(.func (.func 55) [v5] [])] U (ah (λ iZ U =>
 (aU iZ 0).wp K U (λ lD U =>
 (aU iZ 1).wp K U (λ v40 U =>
 (aU iZ 2).wp K U (λ kM U =>
 (lj .not kM).wp K U (λ kj U =>
 ax kj (
 (ek (some [(0,1)]) (some [.ag]) none []).wp K U (λ lE U =>
 (aI (some (true,1)) ko lE U).wp K U (λ _ U =>
 bD (some (true,1)) ko U λ o8 =>
 aq R (.aK [o8,v40,(.int .i64 4)]) U) (aa R)) (aa R)) (
 (au (some (87,1)) (some [.a8]) 1 false [(0,lD)]).wp K U (λ ri U =>
 (dB (some (87,1)) false v8 ri U).wp K U (λ v49 U =>
 lp ko v5 v49 U) (aa R)) (aa R))) (aa R)) (aa R)) (aa R)) (aa R)) (aa R))) (
 ae K 56 [v8] U (ah (λ mU U =>
 (aU mU 0).wp K U (λ v53 U =>
 (aU mU 1).wp K U (λ nC U =>
 (aC.cL [.ag]).wp K U (λ v12 U =>
 (aI (some (true,1)) v12 v53 U).wp K U (λ _ U =>
 (ak (some (true,1)) v12 U).wp K U (λ mJ U =>
 (aI (some (true,1)) ko mJ U).wp K U (λ _ U =>
 bD (some (true,1)) ko U λ rM =>
 aq R (.aK [rM,(.int .i64 0),nC]) U) (aa R)) (aa R)) (aa R)) (aa R)) (aa R)) (aa R)) (aa R)))))))))))) U)) (aa R)) (aa R)) (aa R)) (aa R)) (aa R))) (aa R)
def aah:Prop :=
 (fL a0).wp K U (λ v2 U =>
 (fL a1).wp K U (λ v3 U =>
 (af (some 0) v2).wp K U (λ v5 U =>
 (ak aF v5 U).wp K U (λ v6 U =>
 (af (some 0) v3).wp K U (λ v7 U =>
 (ak aF v7 U).wp K U (λ v8 U =>
 ae K 47 [v6,v8] U (ah (λ v9 U =>
 aq R v9 U) (aa R))) (aa R)) (aa R)) (aa R)) (aa R)) (aa R)) (aa R)
def aai:Prop :=
 (fL a0).wp K U (λ v1 U =>
 (ak (some (true,1)) v1 U).wp K U (λ v4 U =>
 ae K 28 [v4,(.int .i64 0)] U (ah (λ v5 U =>
 (aU v5 0).wp K U (λ v6 U =>
 (aU v5 1).wp K U (λ v7 U =>
 aq R (.aK [v6,v7]) U) (aa R)) (aa R)) (aa R))) (aa R)) (aa R)
def aaj:Prop :=
 (fL a0).wp K U (λ v1 U =>
 (aC.cL [.ag]).wp K U (λ v2 U =>
 (af (some 0) v1).wp K U (λ v3 U =>
 (ak aF v3 U).wp K U (λ v4 U =>
 (dB (some (43,6)) true .ag v4 U).wp K U (λ v5 U =>
 (ek (some [(0,1)]) (some [.ag]) none [(0,v5)]).wp K U (λ v6 U =>
 (aI (some (true,1)) v2 v6 U).wp K U (λ _ U =>
 bD (some (true,1)) v2 U λ r0 =>
 aq R r0 U) (aa R)) (aa R)) (aa R)) (aa R)) (aa R)) (aa R)) (aa R)
def aak:Prop :=
 (fL a0).wp K U (λ v2 U =>
 (fL a1).wp K U (λ v3 U =>
 (ak (some (true,1)) v2 U).wp K U (λ v6 U =>
 (ak aF v3 U).wp K U (λ v7 U =>
 ae K 62 [v6,v7,(.func (.func 63) [] [v3])] U (ah (λ v9 U =>
 (aU v9 0).wp K U (λ v10 U =>
 (aU v9 1).wp K U (λ v11 U =>
 aq R (.aK [v10,v11]) U) (aa R)) (aa R)) (aa R))) (aa R)) (aa R)) (aa R)) (aa R)
end
section
variable {a0 a1 a2 a3 a4 a5 a6:AV} {R:cV->St->Prop} {U:St}
theorem Yl (h:aaq a0 R U):ae K 53 [a0] U R:=bS Tryz.f53 agn h
theorem Ym (h:aar a0 R U):ae K 55 [a0] U R:=bS Tryz.f55 ago h
theorem Yn (h:aas a0 R U):ae K 56 [a0] U R:=bS Tryz.f56 agp h
theorem Yo (h:aat a0 R U):ae K 61 [a0] U R:=bS Tryz.f61 agq h
theorem Yp (h:aau a0 a1 a2 R U):ae K 62 [a0,a1,a2] U R:=bS Tryz.f62 agr h
theorem Yq (h:aav a0 a1 R U):ae K 63 [a0,a1] U R:=bS Tryz.f63 ags h
theorem LX (h:QS a0 a1 R U):ae K 64 [a0,a1] U R:=bS Tryz.f64 agt h
theorem Yr (h:aaw a0 R U):ae K 68 [a0] U R:=bS Tryz.f68 agu h
theorem Ys (h:aax a0 R U):ae K 69 [a0] U R:=bS Tryz.f69 agv h
theorem Yt (h:aay a0 R U):ae K 74 [a0] U R:=bS Tryz.f74 agw h
theorem Yu (h:aaz a0 a1 R U):ae K 75 [a0,a1] U R:=bS Tryz.f75 agx h
theorem Yv (h:aaA a0 a1 R U):ae K 76 [a0,a1] U R:=bS Tryz.f76 agy h
theorem Yw (h:aaB a0 R U):ae K 77 [a0] U R:=bS Tryz.f77 agz h
theorem Yx (h:aaC a0 a1 R U):ae K 81 [a0,a1] U R:=bS Tryz.f81 agA h
theorem Yy (h:aaD a0 a1 a2 R U):ae K 87 [a0,a1,a2] U R:=bS Tryz.f87 agB h
theorem Yz (h:aaE a0 R U):ae K 88 [a0] U R:=bS Tryz.f88 agC h
theorem YA (h:aaF a0 R U):ae K 89 [a0] U R:=bS Tryz.f89 agD h
theorem LY (h:QT a0 R U):ae K 93 [a0] U R:=bS Tryz.f93 agE h
theorem YB (h:ahA a0 a1 R U):ae K 99 [a0,a1] U R:=bS Tryz.f99 agF h
theorem TX (h:TW a0 a1 R U):ae K 100 [a0,a1] U R:=bS Tryz.f100 acE h
theorem TY (h:afj a0 R U):ae K 101 [a0] U R:=bS Tryz.f101 acF h
theorem TZ (h:afk a0 a1 R U):ae K 102 [a0,a1] U R:=bS Tryz.f102 acG h
theorem T9 (h:T4 a0 a1 R U):ae K 103 [a0,a1] U R:=bS Tryz.f103 acH h
theorem Ub (h:Ua a0 R U):ae K 104 [a0] U R:=bS Tryz.f104 acI h
theorem Uc (h:afl a0 a1 R U):ae K 105 [a0,a1] U R:=bS Tryz.f105 acJ h
theorem Is (h:LP a0 a1 a2 R U):ae K 106 [a0,a1,a2] U R:=bS Tryz.f106 acK h
theorem Ue (h:Ud a0 R U):ae K 107 [a0] U R:=bS Tryz.f107 acL h
theorem Ug (h:Uf a0 R U):ae K 108 [a0] U R:=bS Tryz.f108 acM h
theorem Ui (h:Uh a0 R U):ae K 109 [a0] U R:=bS Tryz.f109 acN h
theorem Uk (h:Uj a0 R U):ae K 110 [a0] U R:=bS Tryz.f110 acO h
theorem Um (h:Ul a0 a1 R U):ae K 121 [a0,a1] U R:=bS Tryz.f121 acP h
theorem Uo (h:Un a0 a1 a2 R U):ae K 122 [a0,a1,a2] U R:=bS Tryz.f122 acQ h
theorem Uq (h:Up a0 a1 R U):ae K 123 [a0,a1] U R:=bS Tryz.f123 acR h
theorem Us (h:Ur a0 R U):ae K 124 [a0] U R:=bS Tryz.f124 acS h
theorem Uu (h:Ut a0 a1 R U):ae K 125 [a0,a1] U R:=bS Tryz.f125 acT h
theorem Uw (h:Uv a0 R U):ae K 126 [a0] U R:=bS Tryz.f126 acU h
theorem Uy (h:Ux a0 a1 a2 R U):ae K 131 [a0,a1,a2] U R:=bS Tryz.f131 acV h
theorem UA (h:Uz a0 a1 R U):ae K 132 [a0,a1] U R:=bS Tryz.f132 acW h
theorem UC (h:UB a0 a1 R U):ae K 133 [a0,a1] U R:=bS Tryz.f133 acX h
theorem UE (h:UD a0 R U):ae K 146 [a0] U R:=bS Tryz.f146 acY h
theorem UG (h:UF a0 a1 a2 R U):ae K 147 [a0,a1,a2] U R:=bS Tryz.f147 acZ h
theorem UH (h:afm a0 a1 R U):ae K 148 [a0,a1] U R:=bS Tryz.f148 ac0 h
theorem UJ (h:UI a0 R U):ae K 149 [a0] U R:=bS Tryz.f149 ac1 h
theorem UL (h:UK a0 R U):ae K 150 [a0] U R:=bS Tryz.f150 ac2 h
theorem UM (h:afn a0 a1 R U):ae K 151 [a0,a1] U R:=bS Tryz.f151 ac3 h
theorem UO (h:UN a0 R U):ae K 152 [a0] U R:=bS Tryz.f152 ac4 h
theorem Yg (h:aal a0 R U):ae K 30 [a0] U R:=bS Tryz.f30 agi h
theorem Yh (h:aam a0 R U):ae K 33 [a0] U R:=bS Tryz.f33 agj h
theorem Yi (h:aan a0 R U):ae K 36 [a0] U R:=bS Tryz.f36 agk h
theorem Yj (h:aao a0 R U):ae K 40 [a0] U R:=bS Tryz.f40 agl h
theorem Yk (h:aap a0 a1 R U):ae K 47 [a0,a1] U R:=bS Tryz.f47 agm h
theorem Yb (h:aag a0 R U):ae K 18 [a0] U R:=bS Tryz.f18 agc h
theorem Yc (h:aah a0 a1 R U):ae K 22 [a0,a1] U R:=bS Tryz.f22 agd h
theorem Yd (h:aai a0 R U):ae K 25 [a0] U R:=bS Tryz.f25 age h
theorem Ye (h:aaj a0 R U):ae K 26 [a0] U R:=bS Tryz.f26 agf h
theorem Yf (h:aak a0 a1 R U):ae K 28 [a0,a1] U R:=bS Tryz.f28 agh h
end
end Go.Rip
