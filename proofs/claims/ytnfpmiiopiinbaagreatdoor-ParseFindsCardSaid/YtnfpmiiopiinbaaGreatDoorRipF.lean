/- Lemmas for the proof: no conditions. -/
import Derived.Test.YtnfpmiiopiinbaaGreatDoorRipZz
import Derived.Test.YtnfpmiiopiinbaaGreatDoorRipD
set_option linter.unusedVariables false
set_option linter.unusedSimpArgs false
set_option linter.loopingSimpArgs false
set_option maxRecDepth 100000
namespace Go.Rip
open Go.Proofs
def W7 : An := ah (ah .z)
def W8 : An := ah (ah (aO (ah (.bk (.lp [0, 1, 5, 6] (aO (ah (.cd .z .z)) (aO (.bk di) di))))) (ah .z)))
def W9 : An := ah (aO (aO (.rg [] [] (some ⟨[(true, 0), (true, 1), (true, 2), (true, 3), (true, 4), (true, 5), (true, 6), (true, 7), (true, 8), (true, 9), (true, 10), (true, 11), (true, 12), (true, 13), (true, 14), (true, 15), (true, 16), (true, 17), (true, 18), (true, 19), (true, 20), (true, 21), (true, 22), (true, 23), (true, 24), (true, 25), (true, 26)], [⟨32, 2, 0⟩, ⟨64, 32, 1⟩, ⟨128, 64, 2⟩, ⟨256, 128, 4⟩, ⟨512, 256, 8⟩, ⟨1024, 512, 16⟩, ⟨2048, 1026, 32⟩, ⟨4096, 3072, 96⟩, ⟨8192, 5120, 160⟩, ⟨16384, 9216, 288⟩, ⟨32768, 17408, 544⟩, ⟨65536, 33792, 1056⟩, ⟨131072, 66560, 2080⟩, ⟨262144, 132096, 4128⟩, ⟨524288, 262144, 8224⟩, ⟨1048576, 524290, 16384⟩, ⟨2097152, 1572864, 49152⟩, ⟨4194304, 2621440, 81920⟩, ⟨8388608, 4718592, 147456⟩, ⟨16777216, 8912896, 278528⟩, ⟨33554432, 17301504, 540672⟩, ⟨67108864, 524290, 16384⟩, ⟨134217728, 67633152, 2113536⟩, ⟨268435456, 134742016, 4210688⟩, ⟨536870912, 268959744, 8404992⟩, ⟨1073741824, 570949632, 17842176⟩, ⟨2147483648, 1074266112, 33570816⟩]⟩)) (.cd (ah .z) .z)) (ah (aO (ah (.bk (.lp [1, 3, 36, 37] (ah (aO (.cd .z .z) (aO (.bk (ah (ah (.cd (ah .z) .z)))) di)))))) (ah .z))))
def Xa : An := aO (.rg [1, 2] [] none) (aO (.rg [3] [] none) (aO (aO (.rg [7, 8, 9, 10] [] none) (.bk (.lp [1, 2, 3, 8, 9, 10] (aO (.rg [11] [] none) (aO (.cd .z .z) (aO (.bk (aO (.rg [4, 5, 12, 13, 14] [] none) (aO (.rg [3, 15, 16, 17] [] none) (aO (aO (.rg [18, 19, 20] [] none) (.cd (aO (.rg [2] [] none) .z) .z)) (.rg [3, 21, 22, 23, 24, 25, 26, 27] [] none))))) (.rg [10, 28] [] none))))))) (aO (.rg [6] [] none) (aO (aO (.rg [29, 30, 31] [] none) (.bk (.rf .z (.bk (.rg [33, 34] [] none))))) (aO (.rg [2, 35, 36] [] none) .z)))))
def Xb : An := ah (aO (ah (.cd (ah .z) .z)) (aO (ah (.bk (.lp [0, 3] (aO (ah (.cd .z .z)) (aO (.bk (ah (.cd (ah .z) .z))) di))))) (aO (ah (.bk (.lp [0, 4] (aO (ah (.cd .z .z)) (aO (.bk (ah (aO (.bk (.lp [0, 4, 5] (aO (ah (.cd .z .z)) (.bk di)))) (ah (.cd (ah .z) .z))))) di))))) (ah .z))))
def Xc : An := ah (aO (aO (.rg [] [] (some ⟨[(true, 0), (true, 1), (true, 2), (true, 3), (true, 4), (true, 5), (true, 6), (true, 7), (true, 8), (true, 9), (true, 10), (true, 11), (true, 12), (true, 13), (true, 14), (true, 15), (true, 16), (true, 17)], [⟨8, 2, 0⟩, ⟨16, 8, 1⟩, ⟨32, 16, 2⟩, ⟨64, 2, 0⟩, ⟨128, 64, 8⟩, ⟨256, 128, 16⟩, ⟨512, 288, 36⟩, ⟨1024, 512, 68⟩, ⟨2048, 1026, 128⟩, ⟨4096, 3072, 384⟩, ⟨8192, 5120, 640⟩, ⟨16384, 9216, 1152⟩, ⟨32768, 16386, 2048⟩, ⟨65536, 49152, 6144⟩, ⟨131072, 81920, 10240⟩, ⟨262144, 147456, 18432⟩, ⟨524288, 279552, 34944⟩, ⟨1048576, 525312, 65664⟩]⟩)) (.cd (ah .z) .z)) (aO (aO (.rg [] [136, 137] none) (.cd (ah .z) .z)) (aO (.rg [] [137] none) .z)))
def Xd : An := ah (ah (aO (ah (.bk (ah (.cd (ah .z) (.sq (some [1, 5, 8, 13]) (ah (.cd .z di)) (.cd (aO (.rg [] [139] none) .z) (.sq (some [1, 5, 8, 24]) (ah (.cd .z di)) (.cd (aO (.rg [] [140, 141, 142] none) .z) (ah (.cd (aO (.rg [] [143] none) .z) (ah (.cd (aO (.rg [] [144] none) .z) (ah (.cd (aO (.rg [] [144] none) .z) (.sq (some [1, 5, 8, 76]) (ah (.cd .z (ah (.cd .z (ah (.cd .z (ah (.cd .z (ah (.cd .z (ah (.cd .z (ah (.cd .z (ah (.cd .z (ah (.cd .z di)))))))))))))))))) (.cd (aO (.rg [] [144] none) .z) (.sq (some [1, 5, 8, 93]) (ah (.cd .z (ah (.cd .z (ah (.cd .z (ah (.cd .z di)))))))) (.cd (aO (.rg [] [144] none) .z) (ah (.cd (aO (.rg [] [145] none) .z) (ah (.cd (aO (.rg [] [140, 142] none) .z) (ah (.cd (aO (.rg [] [142] none) .z) (.sq (some [5, 154]) (ah (.cd .z (ah (.cd .z (ah (.cd .z (ah (.cd .z (ah (.cd .z (ah (.cd .z (ah (.cd .z (ah (.cd .z (ah (.cd .z (ah (.cd .z di)))))))))))))))))))) (.cd (ah .z) .z)))))))))))))))))))))))))) (ah .z)))
def Xe : An := aO (.rg [2] [] none) (aO (.rg [3, 7, 8, 9] [] none) (aO (aO (.rg [4] [] none) (.bk (.lp [0, 3, 4] (aO (aO (.rg [10, 11, 12, 13] [] none) (.cd .z .z)) (aO (.bk (aO (.rg [5, 16, 17, 18] [] none) (aO (.rg [6] [] none) (.bk (.lp [0, 3, 4, 5, 6] (aO (aO (.rg [19, 20, 21, 22] [] none) (.cd .z .z)) (aO (.bk (.rg [25, 26, 27, 28, 29, 30, 31, 32, 33, 34, 35] [] (some ⟨[(true, 0), (true, 1), (true, 2), (true, 3), (true, 4), (true, 5), (true, 6), (true, 7), (true, 8), (true, 9), (true, 10), (false, 11)], [⟨33554432, 8, 0⟩, ⟨67108864, 32, 0⟩, ⟨134217728, 64, 0⟩, ⟨268435456, 201326592, 6⟩, ⟨536870912, 268435456, 8⟩, ⟨1073741824, 8, 0⟩, ⟨2147483648, 16, 0⟩, ⟨4294967296, 3221225472, 96⟩, ⟨8589934592, 4294967296, 128⟩, ⟨17179869184, 8589934592, 256⟩, ⟨34359738368, 570425344, 1023⟩, ⟨0, 51539607552, 2047⟩]⟩))) (.rg [6, 23, 24] [] none)))))))) (.rg [4, 14, 15] [] none)))))) (aO (.rg [2, 36] [] none) .z)))
def Xf : An := ah (aO (ah (.cd (ah .z) .z)) (aO (ah (.bk (.lp [0, 9, 10] (ah (aO (.cd .z .z) (aO (.bk (ah (ah (.cd (ah .z) .z)))) di)))))) (ah .z)))
def Xg : An := ah (ah .z)
def Xh : An := ah (ah .z)
def Xi : An := ah (ah (aO (.bk (ah (.cd (ah .z) (ah (.cd (ah .z) (ah (.cd (ah .z) (ah (.cd (ah .z) (ah (.cd (ah .z) .z))))))))))) (ah .z)))
def Xj : An := ah (aO (.rg [] [] (some ⟨[(true, 0), (true, 1), (true, 2), (true, 3), (true, 4), (true, 5), (true, 6), (true, 7), (true, 8), (false, 9), (false, 10)], [⟨64, 8, 0⟩, ⟨128, 4, 0⟩, ⟨256, 128, 2⟩, ⟨512, 256, 4⟩, ⟨1024, 8, 0⟩, ⟨2048, 1536, 24⟩, ⟨4096, 2048, 32⟩, ⟨8192, 4096, 64⟩, ⟨16384, 8256, 129⟩, ⟨32, 0, 0⟩, ⟨0, 16416, 1023⟩]⟩)) (ah .z))
def Xk : An := ah (ah (aO (.bk (ah (.cd (ah .z) (ah (.cd (ah .z) .z))))) (aO (ah (ah (.cd (ah (ah .z)) .z))) (ah .z))))
def Xl : An := ah (aO (ah (.bk (.rf di (.bk (aO (.rg [] [] (some ⟨[(true, 0), (true, 1), (true, 2), (true, 3), (true, 4), (true, 5), (true, 6), (true, 7), (true, 8)], [⟨512, 4, 0⟩, ⟨1024, 512, 1⟩, ⟨2048, 1024, 2⟩, ⟨4096, 32, 0⟩, ⟨8192, 6144, 12⟩, ⟨16384, 8192, 16⟩, ⟨32768, 16384, 32⟩, ⟨65536, 2, 0⟩, ⟨131072, 98304, 192⟩]⟩)) (.cd (ah .z) .z)))))) (ah .z))
def Xm : An := ah (ah (aO (ah (.bk (.lp [1, 2, 5, 6] (aO (ah (.cd .z .z)) (aO (.bk (aO (.rg [] [] (some ⟨[(true, 0), (true, 1), (true, 2), (true, 3), (true, 4), (true, 5), (true, 6), (true, 7), (true, 8), (true, 9), (true, 10)], [⟨65536, 4, 0⟩, ⟨131072, 65536, 1⟩, ⟨262144, 32, 0⟩, ⟨524288, 64, 0⟩, ⟨1048576, 786432, 12⟩, ⟨2097152, 1048576, 16⟩, ⟨4194304, 2228224, 34⟩, ⟨8388608, 4194304, 64⟩, ⟨16777216, 8388608, 128⟩, ⟨33554432, 2, 0⟩, ⟨67108864, 50331648, 768⟩]⟩)) (.cd (ah .z) .z))) di))))) (ah .z)))
def Xn : An := ah (ah (aO (.bk (ah (.cd (ah .z) (ah (.cd (ah .z) .z))))) (aO (ah (ah (.cd (ah (ah .z)) .z))) (ah .z))))
def Xo : An := ah (ah (aO (ah (.bk (.lp [2, 4, 13, 14] (ah (aO (.cd .z .z) (aO (.bk (ah di)) di)))))) (ah .z)))
def Xp : An := aO (.rg [2] [] none) (aO (aO (.rg [3, 4] [] none) (.cd (aO (.rg [2] [] none) .z) .z)) (aO (.rg [2, 5, 6, 7] [] none) .z))
def Xq : An := ah (ah .z)
def Sy : An := ah (aO (ah (.cd (ah .z) .z)) (ah (ah .z)))
def Sz : An := ah (ah .z)
def SA : An := ah (.cd di .z)
def SB : An := ah (ah (ah .z))
def SC : An := ah (ah .z)
def SD : An := ah (.bk (.lp [0, 1, 2] (aO (ah (.cd .z .z)) (.bk di))))
def SE : An := ah (ah (ah (ah (.sq (some [3, 4]) (.bk (.lp [0, 3, 4] (aO (ah (.cd .z .z)) (.bk (aO (ah (aO (.rg [] [61] none) (.cd .z .z))) (ah di)))))) (aO (ah (.cd (ah .z) .z)) (ah .z))))))
def SF : An := ah (aO (.rg [] [178] none) .z)
def SG : An := ah (ah .z)
def SH : An := ah (ah (ah (aO (aO (.rg [] [122, 208] none) (.cd (ah .z) .z)) (aO (aO (.rg [] [122] none) (.cd (ah .z) .z)) (ah (ah (aO (ah (.bk (.rf di (.bk (aO (.rg [] [] (some ⟨[(true, 0), (true, 1), (true, 2), (true, 3), (true, 4), (true, 5), (true, 6), (true, 7), (true, 8), (false, 9), (false, 10)], [⟨19807040628566084398385987584, 1024, 0⟩, ⟨39614081257132168796771975168, 8, 0⟩, ⟨79228162514264337593543950336, 39614081257132168796771975168, 2⟩, ⟨158456325028528675187087900672, 79228162514264337593543950336, 4⟩, ⟨316912650057057350374175801344, 4096, 0⟩, ⟨633825300114114700748351602688, 475368975085586025561263702016, 24⟩, ⟨1267650600228229401496703205376, 633825300114114700748351602688, 32⟩, ⟨2535301200456458802993406410752, 1267650600228229401496703205376, 64⟩, ⟨5070602400912917605986812821504, 2535301200456458802993406410752, 128⟩, ⟨10141204801825835211973625643008, 5090409441541483690385198809088, 257⟩, ⟨0, 10141204801825835211973625644032, 1023⟩]⟩)) (aO (aO (.rg [] [] (some ⟨[(true, 0), (true, 1), (true, 2), (true, 3), (true, 4), (true, 5), (true, 6), (true, 7), (true, 8), (true, 9), (true, 10), (true, 11), (true, 12), (true, 13), (true, 14)], [⟨20282409603651670423947251286016, 16, 0⟩, ⟨40564819207303340847894502572032, 128, 0⟩, ⟨81129638414606681695789005144064, 40564819207303340847894502572032, 2⟩, ⟨162259276829213363391578010288128, 101412048018258352119736256430080, 5⟩, ⟨324518553658426726783156020576256, 4096, 0⟩, ⟨649037107316853453566312041152512, 486777830487640090174734030864384, 24⟩, ⟨1298074214633706907132624082305024, 8, 0⟩, ⟨2596148429267413814265248164610048, 1298074214633706907132624082305024, 64⟩, ⟨5192296858534827628530496329220096, 2596148429267413814265248164610048, 128⟩, ⟨10384593717069655257060992658440192, 4096, 0⟩, ⟨20769187434139310514121985316880384, 15576890575604482885591488987660288, 768⟩, ⟨41538374868278621028243970633760768, 20769187434139310514121985316880384, 1024⟩, ⟨83076749736557242056487941267521536, 41538374868278621028243970633760768, 2048⟩, ⟨166153499473114484112975882535043072, 83725786843874095510054253308674048, 4128⟩, ⟨332306998946228968225951765070086144, 166153499473114484112975882535043072, 8192⟩]⟩)) (.cd (ah .z) .z)) di)))))) (ah .z))))))))
def SI : An := ah (ah (aO (ah (.cd (ah .z) .z)) (aO (ah (.bk (.lp [0, 1, 5, 6] (aO (ah (.cd .z .z)) (.sq (some [0, 1, 5, 6]) (.bk (ah (ah (.cd (ah di) .z)))) di))))) (ah (ah .z)))))
def SJ : An := ah (ah .z)
def SK : An := ah (aO (ah (.bk (.sq (some [4]) (ah (.cd .z (ah (.cd .z (ah (.cd .z (ah (.cd .z (ah (.cd .z (ah (.cd .z (ah (.cd .z (ah (.cd .z (ah (.cd .z (ah (.cd .z (ah (.cd .z (ah (.cd .z di)))))))))))))))))))))))) (.cd (ah .z) .z)))) (ah .z))
def SL : An := ah (ah .z)
def SM : An := ah (ah .z)
def SN : An := ah (ah .z)
def SO : An := ah (aO (ah (.bk (.lp [0, 3] (aO (ah (.cd .z .z)) (aO (.bk (ah (.cd (ah .z) .z))) di))))) (ah .z))
def SP : An := ah (ah .z)
def SQ : An := ah (aO (ah (.bk (.lp [0, 1, 5] (aO (ah (.cd .z .z)) (aO (.bk (ah (.cd (ah .z) .z))) di))))) (ah .z))
def SR : An := ah (ah .z)
def SS : An := ah (ah .z)
def SU : An := ah (aO (ah (.bk (.lp [0, 3] (aO (ah (.cd .z .z)) (aO (.bk (ah (.cd (ah .z) .z))) di))))) (ah .z))
def SV : An := ah (aO (ah (.bk (.lp [0, 3] (aO (ah (.cd .z .z)) (aO (.bk (ah (.cd (ah .z) .z))) di))))) (ah .z))
def SW : An := ah (aO (ah (.bk (.lp [0, 3] (aO (ah (.cd .z .z)) (aO (.bk (ah (.cd (ah .z) .z))) di))))) (ah .z))
def SX : An := ah (ah .z)
def SY : An := ah (.bk (.lp [0, 1, 2, 4] (aO (ah (.cd .z .z)) (.bk (ah (.bk (.sq (some [0, 1, 2, 4, 14, 24]) (ah (.cd .z di)) (.cd di (ah (.cd (ah (aO (ah (.cd .z .z)) di)) (aO (ah (.cd .z .z)) di)))))))))))
def SZ : An := ah (ah .z)
def S0 : An := ah (aO (.bk (.lp [0, 2] (aO (aO (.rg [] [151] none) (.cd .z .z)) (.bk di)))) (ah .z))
def S5 : An := ah (aO (ah (.bk (.lp [0, 2, 6, 7] (ah (aO (.cd .z .z) (aO (.bk (ah (ah (.cd (ah .z) .z)))) di)))))) (aO (aO (.rg [] [214] none) (.cd (ah .z) .z)) (ah .z)))
def S6 : An := ah (ah .z)
def S7 : An := ah (ah (aO (ah (.bk (.lp [0, 3, 6, 7] (ah (aO (.cd .z .z) (aO (.bk (ah (aO (ah (.cd (ah .z) .z)) di))) di)))))) (aO (.bk (ah (.cd (ah .z) (ah (.cd (ah .z) .z))))) (ah .z))))
def WY : An := ah (aO (.bk (ah (.cd (ah .z) (ah (.cd (ah .z) (ah (.cd (ah .z) .z))))))) (ah .z))
def WZ : An := ah (ah (aO (ah (.cd (ah .z) .z)) (aO (ah (.cd (ah .z) .z)) (aO (ah (.bk (.lp [3, 4] (aO (ah (.cd .z .z)) (aO (.bk (ah (ah (aO (ah (.bk (.lp [3, 4, 5, 6, 7] (aO (ah (.cd .z .z)) (aO (.bk di) di))))) (aO (.rg [] [71, 72] none) (.cd (ah .z) .z)))))) di))))) (ah (aO (ah (.bk (.lp [3, 8, 9] (aO (ah (.cd .z .z)) (aO (.bk (ah (.cd (ah .z) .z))) di))))) (aO (ah (.cd (ah .z) .z)) (ah .z))))))))
def W0 : An := ah (aO (ah (ah (.cd (ah .z) .z))) (ah (ah (aO (ah (.bk (.rf (ah di) (.bk (aO (ah (.cd .z .z)) (ah (.sq (some [2, 3, 4, 7, 9, 11, 12]) (ah (.cd di .z)) (aO (ah (.cd (ah .z) .z)) (ah di))))))))) (ah .z)))))
def W1 : An := ah (ah .z)
def W2 : An := ah (aO (ah (ah (.cd (ah .z) .z))) (aO (ah (ah (.cd (ah .z) .z))) (ah .z)))
def W3 : An := ah (ah .z)
def W4 : An := ah (aO (ah (ah (.cd (ah .z) .z))) (ah (aO (ah (.bk (.lp [2, 5, 6] (aO (ah (.cd .z .z)) (aO (.bk di) di))))) (ah .z))))
def W5 : An := ah (aO (ah (.cd (ah .z) .z)) (aO (ah (.bk (.lp [0, 1, 5] (aO (ah (.cd .z .z)) (aO (.bk (aO (.rg [] [] (some ⟨[(true, 0), (true, 1), (true, 2), (true, 3), (true, 4), (true, 5), (true, 6), (true, 7), (true, 8)], [⟨131072, 1, 0⟩, ⟨262144, 32, 0⟩, ⟨524288, 393216, 3⟩, ⟨1048576, 524288, 4⟩, ⟨2097152, 2, 0⟩, ⟨4194304, 32, 0⟩, ⟨8388608, 6291456, 48⟩, ⟨16777216, 8388608, 64⟩, ⟨33554432, 17825792, 136⟩]⟩)) (.cd (ah .z) .z))) di))))) (ah .z)))
def W6 : An := ah (aO (ah (.cd (ah .z) .z)) (aO (ah (.bk (.lp [0, 3] (aO (ah (.cd .z .z)) (aO (.bk (ah (.cd (ah .z) .z))) di))))) (ah .z)))
def WU : An := ah (aO (ah (.cd (ah .z) .z)) (ah (ah (ah (ah (aO (.rg [] [17, 22] none) .z))))))
def WV : An := ah (ah .z)
def WW : An := ah (ah .z)
def WX : An := aO (.rg [1, 2] [] none) (aO (.rg [3, 4, 5, 6] [] none) .z)
section
variable (a0 a1 a2 a3 a4 a5 a6 : AV) (R : cB -> St -> Prop) (U : St)
def Qu : Prop :=
 (eH a0).wp K U (fun v1 U =>
 (aq (some (true, 3)) v1 U).wp K U (fun v3 U =>
 (aP (some (9, 1)) (some [.str []]) 3 false [(0, (.str nv)), (1, (.str ur)), (2, (.str nu))]).wp K U (fun v4 U =>
 af K 121 [v3, v4] U (au (fun v5 U =>
 aj R v5 U) (aa R))) (aa R)) (aa R)) (aa R)
def Qv : Prop :=
 (ak .add aE true a1 (.int .i64 1)).wp K U (fun v8 U =>
 cL 4 [a0, a1, .al, v8] U fun lp v0 v1 v5 v6 U =>
 (aG (some (43, 6)) none v0 v1).wp K U (fun bF U =>
 (ag (some 5) bF).wp K U (fun bP U =>
 (aq aK bP U).wp K U (fun bA U =>
 (ak .add aE false v1 bA).wp K U (fun cM U =>
 (ak .lss aE false v6 cM).wp K U (fun ca U =>
 ao ca (
 (aP (some (3, 1)) (some [.int .i64 0]) 1 false [(0, v6)]).wp K U (fun dx U =>
 (eZ (some (3, 1)) false v5 dx U).wp K U (fun v28 U =>
 (aG (some (43, 6)) none v0 v6).wp K U (fun v21 U =>
 (ag (some 5) v21).wp K U (fun cn U =>
 (aq aK cn U).wp K U (fun cX U =>
 (ak .add aE false v6 cX).wp K U (fun v24 U =>
 lp v0 v1 v28 v24 U) (aa R)) (aa R)) (aa R)) (aa R)) (aa R)) (aa R)) (
 aj R v5 U)) (aa R)) (aa R)) (aa R)) (aa R)) (aa R)) (aa R)
def Qw : Prop :=
 (eH a0).wp K U (fun v1 U =>
 (fun aF : St =>
 aC K (ag (some 0) v1) (fun v5 =>
 aC K (ag (some 0) v5) (fun v6 =>
 aC K (aq aK v6 aF) (fun v7 =>
 aC K (bB (some false) v7) (fun v8 =>
 aC K (ak .eql aE true v8 (.int .i64 0)) (fun v9 =>
 ad K (ar v9 false) (ag (some 0) v1) (fun v11 =>
 ad K (ar v9 false) (ag (some 0) v11) (fun v12 =>
 ad K (ar v9 false) (aq aK v12 aF) (fun bF =>
 ad K (ar v9 false) (aG (some (43, 6)) none bF (.int .i64 0)) (fun bP =>
 ad K (ar v9 false) (ag (some 0) bP) (fun bA =>
 ad K (ar v9 false) (aq aK bA aF) (fun cM =>
 ad K (ar v9 false) (ak .neq aE true cM (.int .u8 1)) (fun ca =>
 aC K (aR v9 (.bool true) ca) (fun cg =>
 ad K (ar cg false) (ag (some 0) v1) (fun v20 =>
 ad K (ar cg false) (ag (some 0) v20) (fun v21 =>
 ad K (ar cg false) (aq aK v21 aF) (fun cn =>
 ad K (ar cg false) (aG (some (43, 6)) none cn (.int .i64 0)) (fun cX =>
 ad K (ar cg false) (ag (some 5) cX) (fun v24 =>
 ad K (ar cg false) (aq aK v24 aF) (fun ek =>
 ad K (ar cg false) (ag (some 0) v1) (fun dK =>
 ad K (ar cg false) (ag (some 0) dK) (fun dx =>
 ad K (ar cg false) (aq aK dx aF) (fun v28 =>
 ad K (ar cg false) (bB (some false) v28) (fun cz =>
 ad K (ar cg false) (ak .neq aE false ek cz) (fun v30 =>
 aC K (aR cg (.bool true) v30) (fun v31 =>
 ao v31 (
 aj R (.bool false) U) (
 af K 130 [] U (au (fun fF U =>
 (ag (some 0) v1).wp K U (fun dL U =>
 (ag (some 0) dL).wp K U (fun fG U =>
 (aq aK fG U).wp K U (fun eF U =>
 (bB (some false) eF).wp K U (fun eX U =>
 cL 4 [v1, fF, eX, (.int .i64 0)] U fun lp eN v3 o5 v37 U =>
 (ak .lss aE false v37 o5).wp K U (fun ga U =>
 ao ga (
 (aq (some (true, 1)) eN U).wp K U (fun v40 U =>
 af K 131 [v40, v37, v3] U (au (fun eo U =>
 (fo .not eo).wp K U (fun oh U =>
 ao oh (
 aj R (.bool false) U) (
 (ak .add aE true v37 (.int .i64 1)).wp K U (fun jX U =>
 lp eN v3 o5 jX U) (aa R))) (aa R)) (aa R))) (aa R)) (
 aj R (.bool true) U)) (aa R)) (aa R)) (aa R)) (aa R)) (aa R)) (aa R))))))))))))))))))))))))))))) U) (aa R)
def Qy : Prop :=
 (eH a0).wp K U (fun v1 U =>
 (ag (some 0) v1).wp K U (fun v7 U =>
 (aq aK v7 U).wp K U (fun v8 U =>
 (bB (some false) v8).wp K U (fun v9 U =>
 cL 6 [v1, (.bool false), .al, v8, v9, (.int .i64 0)] U fun lp eN v2 v3 eU oq v10 U =>
 (ak .lss aE false v10 oq).wp K U (fun v11 U =>
 ao v11 (
 (aG (some (43, 6)) none eU v10).wp K U (fun bF U =>
 (aq (some (true, 6)) bF U).wp K U (fun bP U =>
 (av.cr [.int .i64 0]).wp K U (fun v4 U =>
 (av.cr [.int .u8 0, .str [], .int .i64 0, .int .i64 0, .int .i64 0, .int .i64 0]).wp K U (fun v5 U =>
 (aM aK v4 v10 U).wp K U (fun _ U =>
 (aM (some (true, 6)) v5 bP U).wp K U (fun _ U =>
 af K 132 [v3, (.func (.func 133) [] [v4])] U (au (fun ca U =>
 (bB (some false) ca).wp K U (fun cH U =>
 (ak .gtr aE true cH (.int .i64 60)).wp K U (fun v20 U =>
 ao v20 (
 aj R (.bool true) U) (
 (aq aK v4 U).wp K U (fun cn U =>
 (ag (some 5) v5).wp K U (fun cX U =>
 (aq aK cX U).wp K U (fun v24 U =>
 (ak .add aE false cn v24).wp K U (fun ek U =>
 (aP (some (3, 1)) (some [.int .i64 0]) 1 true [(0, ek)]).wp K U (fun dK U =>
 (eZ (some (3, 1)) true ca dK U).wp K U (fun dx U =>
 (ak .add aE true v10 (.int .i64 1)).wp K U (fun v28 U =>
 lp eN v2 dx eU oq v28 U) (aa R)) (aa R)) (aa R)) (aa R)) (aa R)) (aa R)) (aa R))) (aa R)) (aa R)) (aa R))) (aa R)) (aa R)) (aa R)) (aa R)) (aa R)) (aa R)) (
 (av.cr [.int .i64 0]).wp K U (fun v6 U =>
 (aM aK v6 (.int .i64 0) U).wp K U (fun _ U =>
 (aq (some (true, 1)) eN U).wp K U (fun cz U =>
 (c7 (some [(0, 1)]) (some [.al]) none [(0, cz)]).wp K U (fun v30 U =>
 af K 81 [v30, (.int .i64 0)] U (au (fun v31 U =>
 qO K 1 v31 U (fun fF q U =>
 q.Du (fun U =>
 (aq aK v6 U).wp K U (fun dL U =>
 (ak .add aE true dL (.int .i64 1)).wp K U (fun fG U =>
 (aM aK v6 fG U).wp K U (fun _ U =>
 q.n U) (fun _ _ => False)) (fun _ _ => False)) (fun _ _ => False)) U) (fun U =>
 (aq aK v6 U).wp K U (fun eF U =>
 (ak .gtr aE true eF (.int .i64 24)).wp K U (fun eX U =>
 aj R eX U) (aa R)) (aa R)) (fun i U =>
 Ft (Nat.beq i 2) (
 (aq aK v6 U).wp K U (fun zt U =>
 (ak .gtr aE true zt (.int .i64 24)).wp K U (fun o5 U =>
 aj R o5 U) (aa R)) (aa R)) (
 False)) (fun U =>
 aj R v2 U) (fun x U => (aa R) x U)) (aa R))) (aa R)) (aa R)) (aa R)) (aa R))) (aa R)) (aa R)) (aa R)) (aa R)) (aa R)
def Qz : Prop :=
 (bB (some false) a0).wp K U (fun v7 U =>
 (ak .eql aE true v7 (.int .i64 0)).wp K U (fun v8 U =>
 ad K (ar v8 false) (av.val a0) (fun v10 =>
 ad K (ar v8 false) (aG (some (43, 6)) none v10 (.int .i64 0)) (fun v11 =>
 ad K (ar v8 false) (ag (some 5) v11) (fun v12 =>
 ad K (ar v8 false) (aq aK v12 U) (fun bF =>
 ad K (ar v8 false) (av.val a0) (fun bP =>
 ad K (ar v8 false) (bB (some false) bP) (fun bA =>
 ad K (ar v8 false) (ak .neq aE false bF bA) (fun cM =>
 (aR v8 (.bool true) cM).wp K U (fun ca U =>
 ao ca (
 aj R (.bool false) U) (
 cL 2 [a0, (.int .i64 0)] U fun lp v0 v3 U =>
 (bB (some false) v0).wp K U (fun v20 U =>
 (ak .lss aE false v3 v20).wp K U (fun v21 U =>
 ao v21 (
 (aG (some (43, 6)) none v0 v3).wp K U (fun dK U =>
 (ag (some 5) dK).wp K U (fun dx U =>
 (aq aK dx U).wp K U (fun v28 U =>
 (ak .lss aE true v28 (.int .i64 1)).wp K U (fun cz U =>
 ad K (ar cz false) (av.val v0) (fun v31 =>
 ad K (ar cz false) (av.val v3) (fun fF =>
 ad K (ar cz false) (aG (some (43, 6)) none v31 fF) (fun dL =>
 ad K (ar cz false) (ag (some 5) dL) (fun fG =>
 ad K (ar cz false) (aq aK fG U) (fun eF =>
 ad K (ar cz false) (av.val v0) (fun eX =>
 ad K (ar cz false) (bB (some false) eX) (fun v37 =>
 ad K (ar cz false) (av.val v3) (fun ga =>
 ad K (ar cz false) (ak .sub aE false v37 ga) (fun iJ =>
 ad K (ar cz false) (ak .gtr aE false eF iJ) (fun v40 =>
 (aR cz (.bool true) v40).wp K U (fun jE U =>
 ao jE (
 aj R (.bool false) U) (
 (ak .add aE true v3 (.int .i64 1)).wp K U (fun cX U =>
 lp v0 cX U) (aa R))) (aa R)))))))))))) (aa R)) (aa R)) (aa R)) (aa R)) (
 cL 2 [v0, (.int .i64 0)] U fun tM mB v4 U =>
 (bB (some false) mB).wp K U (fun oh U =>
 (ak .lss aE false v4 oh).wp K U (fun jX U =>
 ao jX (
 (ak .add aE true v4 (.int .i64 1)).wp K U (fun v49 U =>
 cL 3 [mB, v4, v49] U fun Ds si dz v5 U =>
 (aG (some (43, 6)) none si dz).wp K U (fun lR U =>
 (ag (some 5) lR).wp K U (fun iX U =>
 (aq aK iX U).wp K U (fun mQ U =>
 (ak .add aE false dz mQ).wp K U (fun ly U =>
 (ak .lss aE false v5 ly).wp K U (fun lz U =>
 ao lz (
 (aG (some (43, 6)) none si v5).wp K U (fun sZ U =>
 (ag (some 5) sZ).wp K U (fun ox U =>
 (aq aK ox U).wp K U (fun om U =>
 (ak .add aE false v5 om).wp K U (fun s0 U =>
 Ds si dz s0 U) (aa R)) (aa R)) (aa R)) (aa R)) (
 (aG (some (43, 6)) none si dz).wp K U (fun v70 U =>
 (ag (some 5) v70).wp K U (fun s8 U =>
 (aq aK s8 U).wp K U (fun v72 U =>
 (ak .add aE false dz v72).wp K U (fun wa U =>
 (ak .neq aE false v5 wa).wp K U (fun s9 U =>
 ao s9 (
 aj R (.bool false) U) (
 (ak .add aE true dz (.int .i64 1)).wp K U (fun lQ U =>
 tM si lQ U) (aa R))) (aa R)) (aa R)) (aa R)) (aa R)) (aa R))) (aa R)) (aa R)) (aa R)) (aa R)) (aa R)) (aa R)) (
 aj R (.bool true) U)) (aa R)) (aa R))) (aa R)) (aa R))) (aa R))))))))) (aa R)) (aa R)
def QA : Prop :=
 (eH a0).wp K U (fun v1 U =>
 (fun aF : St =>
 aC K (ag (some 0) v1) (fun v3 =>
 aC K (aq aK v3 aF) (fun v4 =>
 aC K (av.enter 134 [v4]) (fun v5 =>
 aC K (ag (some 1) v1) (fun v6 =>
 aC K (aq aK v6 aF) (fun v7 =>
 aC K (ak .neq aE true v7 (.str w_)) (fun v8 =>
 aC K (ak .neq (BT.mk true false false none false) false v5 v8) (fun v9 =>
 ad K (ar v9 false) (ag (some 1) v1) (fun v11 =>
 ad K (ar v9 false) (aq aK v11 aF) (fun v12 =>
 ad K (ar v9 false) (ak .neq aE true v12 (.str w_)) (fun bF =>
 ad K (ar v9 false) (av.val bF) (fun bP =>
 ad K (ar bP true) (ag (some 1) v1) (fun bA =>
 ad K (ar bP true) (aq aK bA aF) (fun cM =>
 ad K (ar bP true) (av.enter 135 [cM]) (fun ca =>
 ad K (ar bP true) (fo .not ca) (fun cg =>
 ad K (ar v9 false) (aR bP cg (.bool false)) (fun cH =>
 aC K (aR v9 (.bool true) cH) (fun v20 =>
 ao v20 (
 aj R (.bool false) U) (
 (ag (some 0) v1).wp K U (fun v21 U =>
 (aq aK v21 U).wp K U (fun cn U =>
 af K 136 [cn] U (au (fun cX U =>
 ad K (ar cX true) (ag (some 2) v1) (fun ek =>
 ad K (ar cX true) (aq aK ek U) (fun dK =>
 ad K (ar cX true) (av.enter 137 [dK]) (fun dx =>
 ad K (ar cX true) (fo .not dx) (fun v28 =>
 (aR cX v28 (.bool false)).wp K U (fun cz U =>
 ad K (ar cz false) (ag (some 0) v1) (fun v31 =>
 ad K (ar cz false) (aq aK v31 U) (fun fF =>
 ad K (ar cz false) (av.enter 136 [fF]) (fun dL =>
 ad K (ar cz false) (fo .not dL) (fun fG =>
 ad K (ar cz false) (av.val fG) (fun eF =>
 ad K (ar eF true) (ag (some 2) v1) (fun eX =>
 ad K (ar eF true) (aq aK eX U) (fun v37 =>
 ad K (ar eF true) (ak .neq aE true v37 (.int .i64 0)) (fun ga =>
 ad K (ar cz false) (aR eF ga (.bool false)) (fun iJ =>
 (aR cz (.bool true) iJ).wp K U (fun v40 U =>
 ao v40 (
 aj R (.bool false) U) (
 (ag (some 0) v1).wp K U (fun jE U =>
 (aq aK jE U).wp K U (fun j5 U =>
 (ak .eql aE true j5 (.int .u8 12)).wp K U (fun eo U =>
 ad K (ar eo true) (ag (some 3) v1) (fun jX =>
 ad K (ar eo true) (aq aK jX U) (fun v46 =>
 ad K (ar eo true) (av.enter 137 [v46]) (fun lQ =>
 (aR eo lQ (.bool false)).wp K U (fun gV U =>
 ad K (ar gV false) (ag (some 0) v1) (fun lx =>
 ad K (ar gV false) (aq aK lx U) (fun v51 =>
 ad K (ar gV false) (ak .neq aE true v51 (.int .u8 12)) (fun j6 =>
 ad K (ar gV false) (av.val j6) (fun v53 =>
 ad K (ar v53 true) (ag (some 3) v1) (fun lR =>
 ad K (ar v53 true) (aq aK lR U) (fun iX =>
 ad K (ar v53 true) (ak .eql aE true iX (.int .i64 0)) (fun mQ =>
 ad K (ar gV false) (aR v53 mQ (.bool false)) (fun ly =>
 (aR gV (.bool true) ly).wp K U (fun lz U =>
 aj R lz U) (aa R)))))))))) (aa R))))) (aa R)) (aa R)) (aa R))) (aa R))))))))))) (aa R)))))) (aa R))) (aa R)) (aa R)))))))))))))))))))) U) (aa R)
def QB : Prop :=
 (bB (some false) a1).wp K U (fun v7 U =>
 (ak .eql aE true a0 (.int .u8 1)).wp K U (fun v10 U =>
 ao v10 (
 af K 138 [a1] U (au (fun v12 U =>
 aj R v12 U) (aa R))) (
 iQ 4 (fun v1 v5 v8 bF U =>
 ao bF (
 (ak .eql aE true v5 (.int .i64 1)).wp K U (fun ca U =>
 ad K (ar ca true) (av.val v1) (fun cH =>
 ad K (ar ca true) (aG (some (5, 1)) none cH (.int .i64 0)) (fun v20 =>
 ad K (ar ca true) (aq aK v20 U) (fun v21 =>
 ad K (ar ca true) (av.enter 139 [v21]) (fun cn =>
 (aR ca cn (.bool false)).wp K U (fun cX U =>
 aj R cX U) (aa R)))))) (aa R)) (
 iQ 4 (fun eN gR eU v24 U =>
 ao v24 (
 (ak .geq aE true gR (.int .i64 2)).wp K U (fun v28 U =>
 ad K (ar v28 true) (av.val eN) (fun v30 =>
 ad K (ar v28 true) (av.val gR) (fun v31 =>
 ad K (ar v28 true) (ak .sub aE true v31 (.int .i64 2)) (fun fF =>
 ad K (ar v28 true) (eE false (some (5, 1)) v30 none (some fF)) (fun dL =>
 ad K (ar v28 true) (av.enter 140 [dL, (.int .u8 5)]) (fun fG =>
 (aR v28 fG (.bool false)).wp K U (fun eF U =>
 ad K (ar eF true) (av.val eN) (fun v37 =>
 ad K (ar eF true) (av.val gR) (fun ga =>
 ad K (ar eF true) (ak .sub aE true ga (.int .i64 2)) (fun iJ =>
 ad K (ar eF true) (aG (some (5, 1)) none v37 iJ) (fun v40 =>
 ad K (ar eF true) (aq aK v40 U) (fun jE =>
 ad K (ar eF true) (av.enter 141 [jE]) (fun j5 =>
 (aR eF j5 (.bool false)).wp K U (fun eo U =>
 ad K (ar eo true) (av.val eN) (fun jX =>
 ad K (ar eo true) (av.val gR) (fun v46 =>
 ad K (ar eo true) (ak .sub aE true v46 (.int .i64 1)) (fun lQ =>
 ad K (ar eo true) (aG (some (5, 1)) none jX lQ) (fun gV =>
 ad K (ar eo true) (aq aK gV U) (fun v49 =>
 ad K (ar eo true) (av.enter 142 [v49]) (fun lx =>
 (aR eo lx (.bool false)).wp K U (fun v51 U =>
 aj R v51 U) (aa R)))))))) (aa R)))))))) (aa R))))))) (aa R)) (
 (ak .eql aE true eU (.int .u8 8)).wp K U (fun v53 U =>
 ao v53 (
 (ak .geq aE true gR (.int .i64 2)).wp K U (fun iX U =>
 ad K (ar iX true) (av.val eN) (fun ly =>
 ad K (ar iX true) (av.enter 143 [ly]) (fun lz =>
 (aR iX lz (.bool false)).wp K U (fun v59 U =>
 aj R v59 U) (aa R)))) (aa R)) (
 (ak .eql aE true eU (.int .u8 9)).wp K U (fun rI U =>
 ao rI (
 (ak .geq aE true gR (.int .i64 2)).wp K U (fun ox U =>
 ad K (ar ox true) (av.val eN) (fun s0 =>
 ad K (ar ox true) (av.enter 144 [s0]) (fun zu =>
 (aR ox zu (.bool false)).wp K U (fun pH U =>
 aj R pH U) (aa R)))) (aa R)) (
 (ak .eql aE true eU (.int .u8 10)).wp K U (fun Ea U =>
 ao Ea (
 (ak .eql aE true gR (.int .i64 3)).wp K U (fun s8 U =>
 ad K (ar s8 true) (av.val eN) (fun wa =>
 ad K (ar s8 true) (av.enter 144 [wa]) (fun s9 =>
 (aR s8 s9 (.bool false)).wp K U (fun v75 U =>
 aj R v75 U) (aa R)))) (aa R)) (
 iQ 4 (fun uq As sn v76 U =>
 ao v76 (
 (ak .eql aE true As (.int .i64 2)).wp K U (fun MQ U =>
 ad K (ar MQ true) (av.val uq) (fun Ee =>
 ad K (ar MQ true) (av.enter 144 [Ee]) (fun v91 =>
 (aR MQ v91 (.bool false)).wp K U (fun WD U =>
 aj R WD U) (aa R)))) (aa R)) (
 iQ 4 (fun sj lS oo v93 U =>
 ao v93 (
 (ak .eql aE true lS (.int .i64 1)).wp K U (fun Ar U =>
 ad K (ar Ar true) (av.val sj) (fun O9 =>
 ad K (ar Ar true) (av.enter 144 [O9]) (fun Pa =>
 (aR Ar Pa (.bool false)).wp K U (fun Pb U =>
 aj R Pb U) (aa R)))) (aa R)) (
 (ak .eql aE true oo (.int .u8 34)).wp K U (fun Pc U =>
 ao Pc (
 (ak .geq aE true lS (.int .i64 1)).wp K U (fun Pd U =>
 ad K (ar Pd true) (av.val sj) (fun Pe =>
 ad K (ar Pd true) (av.enter 145 [Pe]) (fun Pf =>
 (aR Pd Pf (.bool false)).wp K U (fun Pg U =>
 aj R Pg U) (aa R)))) (aa R)) (
 (ak .eql aE true oo (.int .u8 35)).wp K U (fun Ph U =>
 ao Ph (
 (ak .geq aE true lS (.int .i64 2)).wp K U (fun vY U =>
 ad K (ar vY true) (av.val sj) (fun Pj =>
 ad K (ar vY true) (av.val lS) (fun aaY =>
 ad K (ar vY true) (ak .sub aE true aaY (.int .i64 1)) (fun Pk =>
 ad K (ar vY true) (eE false (some (5, 1)) Pj none (some Pk)) (fun Pm =>
 ad K (ar vY true) (av.enter 140 [Pm, (.int .u8 37)]) (fun Pn =>
 (aR vY Pn (.bool false)).wp K U (fun yb U =>
 ad K (ar yb true) (av.val sj) (fun Po =>
 ad K (ar yb true) (av.val lS) (fun Pp =>
 ad K (ar yb true) (ak .sub aE true Pp (.int .i64 1)) (fun v127 =>
 ad K (ar yb true) (aG (some (5, 1)) none Po v127) (fun Pq =>
 ad K (ar yb true) (aq aK Pq U) (fun Pr =>
 ad K (ar yb true) (av.enter 142 [Pr]) (fun v130 =>
 (aR yb v130 (.bool false)).wp K U (fun v131 U =>
 aj R v131 U) (aa R)))))))) (aa R))))))) (aa R)) (
 (ak .eql aE true oo (.int .u8 36)).wp K U (fun vZ U =>
 ao vZ (
 (ak .eql aE true lS (.int .i64 3)).wp K U (fun yc U =>
 ad K (ar yc true) (av.val sj) (fun Ps =>
 ad K (ar yc true) (aG (some (5, 1)) none Ps (.int .i64 0)) (fun v138 =>
 ad K (ar yc true) (aq aK v138 U) (fun v139 =>
 ad K (ar yc true) (av.enter 142 [v139]) (fun aa1 =>
 (aR yc aa1 (.bool false)).wp K U (fun v141 U =>
 ad K (ar v141 true) (av.val sj) (fun v143 =>
 ad K (ar v141 true) (aG (some (5, 1)) none v143 (.int .i64 1)) (fun aa2 =>
 ad K (ar v141 true) (aq aK aa2 U) (fun v145 =>
 ad K (ar v141 true) (ak .eql aE true v145 (.int .u8 37)) (fun v146 =>
 (aR v141 v146 (.bool false)).wp K U (fun D9 U =>
 ad K (ar D9 true) (av.val sj) (fun aa3 =>
 ad K (ar D9 true) (aG (some (5, 1)) none aa3 (.int .i64 2)) (fun aa4 =>
 ad K (ar D9 true) (aq aK aa4 U) (fun aa5 =>
 ad K (ar D9 true) (av.enter 142 [aa5]) (fun v152 =>
 (aR D9 v152 (.bool false)).wp K U (fun aa6 U =>
 aj R aa6 U) (aa R)))))) (aa R)))))) (aa R)))))) (aa R)) (
 iQ 2 (fun aa8 v154 U =>
 ao v154 (
 (ak .eql aE true aa8 (.int .i64 0)).wp K U (fun v167 U =>
 aj R v167 U) (aa R)) (
 aj R (.bool false) U)) fun vw =>
 (ak .eql aE true oo (.int .u8 6)).wp K U (fun Ww U =>
 ao Ww (
 vw lS Ww U) (
 (ak .eql aE true oo (.int .u8 7)).wp K U (fun Wx U =>
 ao Wx (
 vw lS Wx U) (
 (ak .eql aE true oo (.int .u8 26)).wp K U (fun v157 U =>
 ao v157 (
 vw lS v157 U) (
 (ak .eql aE true oo (.int .u8 27)).wp K U (fun Wy U =>
 ao Wy (
 vw lS Wy U) (
 (ak .eql aE true oo (.int .u8 28)).wp K U (fun v159 U =>
 ao v159 (
 vw lS v159 U) (
 (ak .eql aE true oo (.int .u8 29)).wp K U (fun v160 U =>
 ao v160 (
 vw lS v160 U) (
 (ak .eql aE true oo (.int .u8 30)).wp K U (fun Wz U =>
 ao Wz (
 vw lS Wz U) (
 (ak .eql aE true oo (.int .u8 31)).wp K U (fun v162 U =>
 ao v162 (
 vw lS v162 U) (
 (ak .eql aE true oo (.int .u8 32)).wp K U (fun WA U =>
 ao WA (
 vw lS WA U) (
 (ak .eql aE true oo (.int .u8 33)).wp K U (fun v164 U =>
 ao v164 (
 vw lS v164 U) (
 (ak .eql aE true oo (.int .u8 37)).wp K U (fun aa7 U =>
 vw lS aa7 U) (aa R))) (aa R))) (aa R))) (aa R))) (aa R))) (aa R))) (aa R))) (aa R))) (aa R))) (aa R))) (aa R))) (aa R))) (aa R))) (aa R))) fun Jo =>
 (ak .eql aE true sn (.int .u8 12)).wp K U (fun Gi U =>
 ao Gi (
 Jo uq As sn Gi U) (
 (ak .eql aE true sn (.int .u8 14)).wp K U (fun Gj U =>
 ao Gj (
 Jo uq As sn Gj U) (
 (ak .eql aE true sn (.int .u8 16)).wp K U (fun MR U =>
 ao MR (
 Jo uq As sn MR U) (
 (ak .eql aE true sn (.int .u8 19)).wp K U (fun Q6 U =>
 ao Q6 (
 Jo uq As sn Q6 U) (
 (ak .eql aE true sn (.int .u8 25)).wp K U (fun v98 U =>
 Jo uq As sn v98 U) (aa R))) (aa R))) (aa R))) (aa R))) (aa R))) fun xi =>
 (ak .eql aE true eU (.int .u8 11)).wp K U (fun ta U =>
 ao ta (
 xi eN gR eU ta U) (
 (ak .eql aE true eU (.int .u8 13)).wp K U (fun Eb U =>
 ao Eb (
 xi eN gR eU Eb U) (
 (ak .eql aE true eU (.int .u8 15)).wp K U (fun Q5 U =>
 ao Q5 (
 xi eN gR eU Q5 U) (
 (ak .eql aE true eU (.int .u8 17)).wp K U (fun v80 U =>
 ao v80 (
 xi eN gR eU v80 U) (
 (ak .eql aE true eU (.int .u8 18)).wp K U (fun MO U =>
 ao MO (
 xi eN gR eU MO U) (
 (ak .eql aE true eU (.int .u8 20)).wp K U (fun Ec U =>
 ao Ec (
 xi eN gR eU Ec U) (
 (ak .eql aE true eU (.int .u8 21)).wp K U (fun Ed U =>
 ao Ed (
 xi eN gR eU Ed U) (
 (ak .eql aE true eU (.int .u8 22)).wp K U (fun Gg U =>
 ao Gg (
 xi eN gR eU Gg U) (
 (ak .eql aE true eU (.int .u8 23)).wp K U (fun v85 U =>
 ao v85 (
 xi eN gR eU v85 U) (
 (ak .eql aE true eU (.int .u8 24)).wp K U (fun MP U =>
 xi eN gR eU MP U) (aa R))) (aa R))) (aa R))) (aa R))) (aa R))) (aa R))) (aa R))) (aa R))) (aa R))) (aa R))) (aa R))) (aa R))) (aa R))) fun Jn =>
 (ak .eql aE true v8 (.int .u8 3)).wp K U (fun ek U =>
 ao ek (
 Jn v1 v5 v8 ek U) (
 (ak .eql aE true v8 (.int .u8 4)).wp K U (fun dK U =>
 Jn v1 v5 v8 dK U) (aa R))) (aa R))) fun j =>
 (ak .eql aE true a0 (.int .u8 2)).wp K U (fun bP U =>
 ao bP (
 j a1 v7 a0 bP U) (
 (ak .eql aE true a0 (.int .u8 5)).wp K U (fun bA U =>
 j a1 v7 a0 bA U) (aa R))) (aa R))) (aa R)) (aa R)
def QC : Prop :=
 (bB (some false) a0).wp K U (fun v8 U =>
 (pQ (some (3, 1)) (some [.int .i64 0]) true v8 v8).wp K U (fun v9 U =>
 cL 3 [a0, v9, (.int .i64 0)] U fun lp v0 v3 v4 U =>
 (bB (some false) v0).wp K U (fun v12 U =>
 (ak .lss aE false v4 v12).wp K U (fun bF U =>
 ao bF (
 af K 67 [v0, v4] U (au (fun cg U =>
 cL 5 [v0, v3, v4, cg, (.int .i64 0)] U fun tM mB lP dz v5 v6 U =>
 (bB (some false) v5).wp K U (fun v21 U =>
 (ak .lss aE false v6 v21).wp K U (fun cn U =>
 ao cn (
 (fun aF : St =>
 aC K (aG (some (3, 1)) none v5 v6) (fun v28 =>
 aC K (aq aK v28 aF) (fun cz =>
 aC K (aG (some (3, 1)) none lP dz) (fun fF =>
 aC K (aq aK fF aF) (fun dL =>
 aC K (ak .add aE true dL (.int .i64 1)) (fun fG =>
 aC K (aG (some (3, 1)) none lP cz) (fun eF =>
 (aM aK eF fG U).wp K U (fun _ U =>
 (ak .add aE true v6 (.int .i64 1)).wp K U (fun v24 U =>
 tM mB lP dz v5 v24 U) (aa R)) (aa R)))))))) U) (
 (ak .add aE true dz (.int .i64 1)).wp K U (fun bA U =>
 lp mB lP bA U) (aa R))) (aa R)) (aa R)) (aa R))) (
 aj R v3 U)) (aa R)) (aa R)) (aa R)) (aa R)
def QD : Prop :=
 (bB (some true) a0).wp K U (fun v6 U =>
 (ak .gtr aE true v6 (.int .i64 2500)).wp K U (fun v7 U =>
 ao v7 (
 aj R (.aQ [(.int .i64 0), (.int .i64 5)]) U) (
 (bB (some true) a0).wp K U (fun v9 U =>
 cL 3 [a0, v9, (.int .i64 0)] U fun lp v0 oq v10 U =>
 (ak .lss aE false v10 oq).wp K U (fun v11 U =>
 ao v11 (
 (eg true none none v0 v10).wp K U (fun bA U =>
 af K 146 [bA] U (au (fun cM U =>
 (fo .not cM).wp K U (fun ca U =>
 ao ca (
 aj R (.aQ [v10, (.int .i64 2)]) U) (
 (ak .add aE true v10 (.int .i64 1)).wp K U (fun cH U =>
 lp v0 oq cH U) (aa R))) (aa R)) (aa R))) (aa R)) (
 aj R (.aQ [(.int .i64 0), (.int .i64 0)]) U)) (aa R)) (aa R))) (aa R)) (aa R)
def QE (a0 a1 : AV) (R : cB -> St -> Prop) (U : St) : Prop :=
 (aq aK a1 U).wp K U (fun v4 U =>
 (aq aK a1 U).wp K U (fun v5 U =>
 (bB (some false) v5).wp K U (fun v6 U =>
 (ak .sub aE true v6 (.int .i64 1)).wp K U (fun v7 U =>
 (aG (some (51, 3)) none v4 v7).wp K U (fun v8 U =>
 (ag (some 1) v8).wp K U (fun v9 U =>
 (aq aK v9 U).wp K U (fun v10 U =>
 (bB (some true) v10).wp K U (fun v11 U =>
 aj R v11 U) (aa R)) (aa R)) (aa R)) (aa R)) (aa R)) (aa R)) (aa R)) (aa R)
def QF : Prop :=
 (eH a0).wp K U (fun v2 U =>
 (eH a1).wp K U (fun v3 U =>
 aj R (.func (.func 147) [] [v2, v3]) U) (aa R)) (aa R)
def QG : Prop :=
 (av.cr [.int .u8 0, .str [], .int .i64 0]).wp K U (fun v2 U =>
 af K 149 [a0] U (au (fun v7 U =>
 (eE true none a0 none (some v7)).wp K U (fun v8 U =>
 (ak .eql aE true v8 (.str w_)).wp K U (fun v11 U =>
 ao v11 (
 af K 150 [a0] U (au (fun bF U =>
 (bg bF 0).wp K U (fun bP U =>
 (bg bF 1).wp K U (fun bA U =>
 (aM (some (true, 3)) v2 bP U).wp K U (fun _ U =>
 bl (some (true, 3)) v2 U fun r0 =>
 aj R (.aQ [r0, bA]) U) (aa R)) (aa R)) (aa R)) (aa R))) (
 (eg true none none v8 (.int .i64 0)).wp K U (fun cg U =>
 (aP (some (178, 1)) (some [.int .i64 0]) 1 false [(0, (.int .i64 2))]).wp K U (fun cH U =>
 af K 151 [cg, cH] U (au (fun v20 U =>
 ao v20 (
 (c7 (some [(0, 1), (1, 1), (2, 1)]) (some [.int .u8 0, .str [], .int .i64 0]) none [(0, (.int .u8 2)), (1, v8)]).wp K U (fun cn U =>
 af K 152 [v8] U (au (fun v24 U =>
 (aM (some (true, 3)) v2 cn U).wp K U (fun _ U =>
 bl (some (true, 3)) v2 U fun lM =>
 aj R (.aQ [lM, v24]) U) (aa R)) (aa R))) (aa R)) (
 (eg true none none v8 (.int .i64 0)).wp K U (fun dx U =>
 (aP (some (178, 1)) (some [.int .i64 0]) 1 false [(0, (.int .i64 3))]).wp K U (fun v28 U =>
 af K 151 [dx, v28] U (au (fun cz U =>
 (fo .not cz).wp K U (fun v30 U =>
 ao v30 (
 (c7 (some [(0, 1), (1, 1), (2, 1)]) (some [.int .u8 0, .str [], .int .i64 0]) none []).wp K U (fun v31 U =>
 (aM (some (true, 3)) v2 v31 U).wp K U (fun _ U =>
 bl (some (true, 3)) v2 U fun oM =>
 aj R (.aQ [oM, (.int .i64 4)]) U) (aa R)) (aa R)) (
 af K 153 [] U (au (fun dL U =>
 (fq (some (.s, 4)) (some (.bool false)) dL v8 false U).wp K U (fun eF U =>
 ao eF (
 (c7 (some [(0, 1), (1, 1), (2, 1)]) (some [.int .u8 0, .str [], .int .i64 0]) none [(0, (.int .u8 3)), (1, v8)]).wp K U (fun v37 U =>
 (aM (some (true, 3)) v2 v37 U).wp K U (fun _ U =>
 bl (some (true, 3)) v2 U fun uc =>
 aj R (.aQ [uc, (.int .i64 0)]) U) (aa R)) (aa R)) (
 (bB (some true) v8).wp K U (fun v40 U =>
 (ak .gtr aE true v40 (.int .i64 12)).wp K U (fun jE U =>
 ao jE (
 (c7 (some [(0, 1), (1, 1), (2, 1)]) (some [.int .u8 0, .str [], .int .i64 0]) none []).wp K U (fun j5 U =>
 (aM (some (true, 3)) v2 j5 U).wp K U (fun _ U =>
 bl (some (true, 3)) v2 U fun DM =>
 aj R (.aQ [DM, (.int .i64 4)]) U) (aa R)) (aa R)) (
 (c7 (some [(0, 1), (1, 1), (2, 1)]) (some [.int .u8 0, .str [], .int .i64 0]) none [(0, (.int .u8 1)), (1, v8)]).wp K U (fun oh U =>
 (aM (some (true, 3)) v2 oh U).wp K U (fun _ U =>
 bl (some (true, 3)) v2 U fun xW =>
 aj R (.aQ [xW, (.int .i64 0)]) U) (aa R)) (aa R))) (aa R)) (aa R))) (aa R)) (aa R)))) (aa R)) (aa R))) (aa R)) (aa R))) (aa R))) (aa R)) (aa R))) (aa R)) (aa R)) (aa R))) (aa R)
def QH : Prop :=
 (eH a0).wp K U (fun v2 U =>
 (eH a1).wp K U (fun v3 U =>
 (fun aF : St =>
 aC K (aq aK v3 aF) (fun v6 =>
 aC K (ag (some 0) v2) (fun v7 =>
 aC K (ag (some 0) v7) (fun v8 =>
 aC K (aq aK v8 aF) (fun v9 =>
 aC K (aq aK v3 aF) (fun v10 =>
 aC K (aG (some (43, 6)) none v9 v10) (fun v11 =>
 aC K (ag (some 5) v11) (fun v12 =>
 aC K (aq aK v12 aF) (fun bF =>
 aC K (ak .add aE false v6 bF) (fun bP =>
 (av.cr [.int .i64 0]).wp K U (fun v5 U => c8 ((dM v12 ++ []) ++ ((dM v3 ++ []) ++ ((dM v8 ++ []) ++ ((dM v3 ++ []) ++ [])))) aF U /\
 (aM aK v5 bP U).wp K U (fun _ U =>
 aj R (.func (.func 155) [] [v3, v5, v2]) U) (aa R)) (aa R))))))))))) U) (aa R)) (aa R)
def QI : Prop :=
 (eH a0).wp K U (fun v3 U =>
 (aq (some (true, 1)) v3 U).wp K U (fun v9 U =>
 af K 30 [v9] U (au (fun v10 U =>
 (ak .neq aE true v10 (.int .i64 0)).wp K U (fun bF U =>
 ao bF (
 aj R (.aQ [(.int .i64 0), v10]) U) (
 (ag (some 0) v3).wp K U (fun ca U =>
 (aq aK ca U).wp K U (fun cg U =>
 (bB (some false) cg).wp K U (fun cH U =>
 (ak .sub aE true cH (.int .i64 1)).wp K U (fun v20 U =>
 af K 122 [(.int .i64 0), v20, a1] U (au (fun cn U =>
 (fo .not cn).wp K U (fun cX U =>
 ao cX (
 aj R (.aQ [(.int .i64 0), (.int .i64 3)]) U) (
 (aq (some (true, 1)) v3 U).wp K U (fun dx U =>
 (c7 (some [(0, 1)]) (some [.al]) none [(0, dx)]).wp K U (fun v28 U =>
 (fY K.P a2 [v28]).wp K U (fun cz U =>
 (bg cz 0).wp K U (fun v30 U =>
 (bg cz 1).wp K U (fun v31 U =>
 (ak .neq aE true v31 (.int .i64 0)).wp K U (fun dL U =>
 ao dL (
 aj R (.aQ [(.int .i64 0), v31]) U) (
 aj R (.aQ [v30, (.int .i64 0)]) U)) (aa R)) (aa R)) (aa R)) (aa R)) (aa R)) (aa R))) (aa R)) (aa R))) (aa R)) (aa R)) (aa R)) (aa R))) (aa R)) (aa R))) (aa R)) (aa R)
def QJ : Prop :=
 (eH a0).wp K U (fun v2 U =>
 (av.cr [.int .i64 0]).wp K U (fun v3 U =>
 (av.cr [.int .i64 0]).wp K U (fun v4 U =>
 (aq (some (true, 1)) v2 U).wp K U (fun v6 U =>
 af K 81 [v6, (.int .i64 0)] U (au (fun v7 U =>
 qO K 1 v7 U (fun v8 q U =>
 q.Du (fun U =>
 (fun aF : St =>
 aC K (ag (some 0) v2) (fun v9 =>
 aC K (ag (some 0) v9) (fun v10 =>
 aC K (aq aK v10 aF) (fun v11 =>
 aC K (aG (some (43, 6)) none v11 v8) (fun bF =>
 aC K (ag (some 1) bF) (fun bP =>
 aC K (aq aK bP aF) (fun bA =>
 aC K (aq aK a1 aF) (fun cM =>
 aC K (ak .eql aE false bA cM) (fun ca =>
 ao ca (
 (aM aK v3 v8 U).wp K U (fun _ U =>
 (aM aK v4 (.int .i64 0) U).wp K U (fun _ U =>
 q.r U) (fun _ _ => False)) (fun _ _ => False)) (
 q.n U)))))))))) U) U) (fun U =>
 (aM aK v3 (.int .i64 0) U).wp K U (fun _ U =>
 (aM aK v4 (.int .i64 7) U).wp K U (fun _ U =>
 bl aK v3 U fun r0 =>
 bl aK v4 U fun r1 =>
 aj R (.aQ [r0, r1]) U) (aa R)) (aa R)) (fun i U =>
 Ft (Nat.beq i 0) (
 (aM aK v3 (.int .i64 0) U).wp K U (fun _ U =>
 (aM aK v4 (.int .i64 7) U).wp K U (fun _ U =>
 bl aK v3 U fun lM =>
 bl aK v4 U fun Of =>
 aj R (.aQ [lM, Of]) U) (aa R)) (aa R)) (
 False)) (fun U =>
 bl aK v3 U fun oM =>
 bl aK v4 U fun Og =>
 aj R (.aQ [oM, Og]) U) (fun x U => (aa R) x U)) (aa R))) (aa R)) (aa R)) (aa R)) (aa R)
def QK : Prop :=
 (eH a0).wp K U (fun v2 U =>
 (ag (some 0) v2).wp K U (fun v7 U =>
 (aq aK v7 U).wp K U (fun v8 U =>
 af K 67 [v8, (.int .i64 0)] U (au (fun v9 U =>
 cL 4 [a1, v2, v9, (.int .i64 0)] U fun lp v1 hU v5 v6 U =>
 (bB (some false) v5).wp K U (fun v12 U =>
 (ak .lss aE false v6 v12).wp K U (fun bF U =>
 ao bF (
 (fun aF : St =>
 aC K (ag (some 0) hU) (fun cM =>
 aC K (aq aK cM aF) (fun ca =>
 aC K (aG (some (3, 1)) none v5 v6) (fun v20 =>
 aC K (aq aK v20 aF) (fun v21 =>
 aC K (aG (some (43, 6)) none ca v21) (fun cn =>
 aC K (ag (some 1) cn) (fun cX =>
 aC K (aq aK cX aF) (fun v24 =>
 aC K (ak .eql aE false v24 v1) (fun dK =>
 ao dK (
 (aG (some (3, 1)) none v5 v6).wp K U (fun cz U =>
 (aq aK cz U).wp K U (fun v30 U =>
 aj R v30 U) (aa R)) (aa R)) (
 (ak .add aE true v6 (.int .i64 1)).wp K U (fun bA U =>
 lp v1 hU v5 bA U) (aa R))))))))))) U) (
 aj R (.int .i64 (-1)) U)) (aa R)) (aa R)) (aa R))) (aa R)) (aa R)) (aa R)
def QL : Prop :=
 (eH a0).wp K U (fun v3 U =>
 (av.cr [.al]).wp K U (fun v6 U =>
 (aq (some (true, 1)) v3 U).wp K U (fun v9 U =>
 af K 30 [v9] U (au (fun v10 U =>
 (ak .neq aE true v10 (.int .i64 0)).wp K U (fun bF U =>
 ao bF (
 (aq (some (true, 1)) v6 U).wp K U (fun bP U =>
 (aM (some (true, 1)) v6 bP U).wp K U (fun _ U =>
 bl (some (true, 1)) v6 U fun r0 =>
 aj R (.aQ [r0, v10]) U) (aa R)) (aa R)) (
 (ag (some 0) v3).wp K U (fun ca U =>
 (aq aK ca U).wp K U (fun cg U =>
 (bB (some false) cg).wp K U (fun cH U =>
 (ak .sub aE true cH (.int .i64 1)).wp K U (fun v20 U =>
 af K 122 [(.int .i64 0), v20, a1] U (au (fun cn U =>
 (fo .not cn).wp K U (fun cX U =>
 ao cX (
 (aq (some (true, 1)) v6 U).wp K U (fun v24 U =>
 (aM (some (true, 1)) v6 v24 U).wp K U (fun _ U =>
 bl (some (true, 1)) v6 U fun lM =>
 aj R (.aQ [lM, (.int .i64 3)]) U) (aa R)) (aa R)) (
 (aq (some (true, 1)) v3 U).wp K U (fun dx U =>
 (c7 (some [(0, 1)]) (some [.al]) none [(0, dx)]).wp K U (fun v28 U =>
 (fY K.P a2 [v28]).wp K U (fun cz U =>
 (bg cz 0).wp K U (fun v30 U =>
 (bg cz 1).wp K U (fun v31 U =>
 (aM (some (true, 1)) v6 v30 U).wp K U (fun _ U =>
 (ak .neq aE true v31 (.int .i64 0)).wp K U (fun dL U =>
 ao dL (
 (av.cr [.al]).wp K U (fun v8 U =>
 (aq (some (true, 1)) v8 U).wp K U (fun fG U =>
 (aM (some (true, 1)) v6 fG U).wp K U (fun _ U =>
 bl (some (true, 1)) v6 U fun oM =>
 aj R (.aQ [oM, v31]) U) (aa R)) (aa R)) (aa R)) (
 (aq (some (true, 1)) v6 U).wp K U (fun eX U =>
 (aM (some (true, 1)) v6 eX U).wp K U (fun _ U =>
 bl (some (true, 1)) v6 U fun uc =>
 aj R (.aQ [uc, (.int .i64 0)]) U) (aa R)) (aa R))) (aa R)) (aa R)) (aa R)) (aa R)) (aa R)) (aa R)) (aa R))) (aa R)) (aa R))) (aa R)) (aa R)) (aa R)) (aa R))) (aa R)) (aa R))) (aa R)) (aa R)) (aa R)
def QM : Prop :=
 (eH a0).wp K U (fun v1 U =>
 (av.cr [.al]).wp K U (fun v2 U =>
 (ag (some 0) v1).wp K U (fun v6 U =>
 (ag (some 0) v6).wp K U (fun v7 U =>
 (aq aK v7 U).wp K U (fun v8 U =>
 af K 89 [v8] U (au (fun v9 U =>
 (c7 (some [(0, 1)]) (some [.al]) none [(0, v9)]).wp K U (fun v10 U =>
 (av.cr [.al]).wp K U (fun v4 U =>
 (aM (some (true, 1)) v4 v10 U).wp K U (fun _ U =>
 (ag (some 0) v4).wp K U (fun v11 U =>
 (aq aK v11 U).wp K U (fun v12 U =>
 (bB (some false) v12).wp K U (fun bF U =>
 cL 4 [v2, v4, bF, (.int .i64 0)] U fun lp hU dz pV bP U =>
 (ak .lss aE false bP pV).wp K U (fun bA U =>
 ao bA (
 (ag (some 0) dz).wp K U (fun ca U =>
 (aq aK ca U).wp K U (fun cg U =>
 (aG (some (43, 6)) none cg bP).wp K U (fun v20 U =>
 (ag (some 4) v20).wp K U (fun v21 U =>
 (aM aK v21 (.int .i64 0) U).wp K U (fun _ U =>
 (ak .add aE true bP (.int .i64 1)).wp K U (fun cn U =>
 lp hU dz pV cn U) (aa R)) (aa R)) (aa R)) (aa R)) (aa R)) (aa R)) (
 (aq (some (true, 1)) dz U).wp K U (fun cX U =>
 (aM (some (true, 1)) hU cX U).wp K U (fun _ U =>
 bl (some (true, 1)) hU U fun r0 =>
 aj R (.aQ [r0, (.int .i64 0)]) U) (aa R)) (aa R))) (aa R)) (aa R)) (aa R)) (aa R)) (aa R)) (aa R)) (aa R)) (aa R))) (aa R)) (aa R)) (aa R)) (aa R)) (aa R)
def QN : Prop :=
 (ak .eql (BT.mk false false false none true) true a0 .al).wp K U (fun v4 U =>
 ao v4 (
 aj R .al U) (
 (aP (some (43, 6)) (some [.int .u8 0, .str [], .int .i64 0, .int .i64 0, .int .i64 0, .int .i64 0]) 0 true []).wp K U (fun v5 U =>
 (eZ (some (43, 6)) true v5 a0 U).wp K U (fun v7 U =>
 aj R v7 U) (aa R)) (aa R))) (aa R)
def Yl : Prop :=
 af K 164 [a0] U (au (fun v7 U =>
 (c7 (some [(0, 1), (1, 1), (2, 1), (3, 1), (4, 1), (5, 1)]) (some [.int .u8 0, .str [], .int .i64 0, .int .i64 0, .int .i64 0, .int .i64 0]) none [(0, a1), (4, v7)]).wp K U (fun v8 U =>
 (c7 (some [(0, 6), (6, 1)]) (some [.int .u8 0, .str [], .int .i64 0, .int .i64 0, .int .i64 0, .int .i64 0, .al]) none [(0, v8)]).wp K U (fun v9 U =>
 (eH v9).wp K U (fun v10 U =>
 aj R v10 U) (aa R)) (aa R)) (aa R)) (aa R))
def J5 : Prop :=
 (aP (some (9, 1)) (some [.str []]) 1 false [(0, a1)]).wp K U (fun v7 U =>
 af K 105 [a0, v7] U (au (fun v8 U =>
 (fo .not v8).wp K U (fun v9 U =>
 ao v9 (
 aj R (.bool false) U) (
 (bC a0).wp K U (fun v11 U =>
 (ag (some 1) v11).wp K U (fun v12 U =>
 (aq aK v12 U).wp K U (fun bF U =>
 (ak .add aE true bF (.int .i64 1)).wp K U (fun bP U =>
 (bC a0).wp K U (fun bA U =>
 (ag (some 1) bA).wp K U (fun cM U =>
 (aM aK cM bP U).wp K U (fun _ U =>
 aj R (.bool true) U) (aa R)) (aa R)) (aa R)) (aa R)) (aa R)) (aa R)) (aa R))) (aa R)) (aa R))) (aa R)
def VP : Prop :=
 af K 165 [a0, (.int .u8 1)] U (au (fun v4 U =>
 aj R v4 U) (aa R))
def VQ : Prop :=
 af K 100 [a0, a1] U (au (fun v6 U =>
 (fo .not v6).wp K U (fun v7 U =>
 ao v7 (
 af K 166 [a0] U (au (fun v9 U =>
 aj R (.aQ []) U) (aa R))) (
 aj R (.aQ []) U)) (aa R)) (aa R))
def J9 : Prop :=
 (bC a0).wp K U (fun v7 U =>
 (ag (some 6) v7).wp K U (fun v8 U =>
 (aq aK v8 U).wp K U (fun v9 U =>
 (eZ (some (87, 1)) false v9 a1 U).wp K U (fun v11 U =>
 (bC a0).wp K U (fun v12 U =>
 (ag (some 6) v12).wp K U (fun bF U =>
 (aM aK bF v11 U).wp K U (fun _ U =>
 aj R a0 U) (aa R)) (aa R)) (aa R)) (aa R)) (aa R)) (aa R)) (aa R)
def VR : Prop :=
 af K 167 [a0, (.int .i64 0)] U (au (fun v6 U =>
 af K 121 [v6, a1] U (au (fun v8 U =>
 aj R v8 U) (aa R))) (aa R))
def DS : Prop :=
 (fY K.P a2 []).wp K U (fun v8 U =>
 (aP (some (87, 1)) (some [.a7]) 1 false [(0, v8)]).wp K U (fun v9 U =>
 af K 103 [a1, v9] U (au (fun v10 U =>
 cL 3 [a0, a1, a2] U fun lp v0 v1 v2 U =>
 af K 100 [v0, (.str wH)] U (au (fun v12 U =>
 ao v12 (
 (fY K.P v2 []).wp K U (fun bA U =>
 (aP (some (87, 1)) (some [.a7]) 1 false [(0, bA)]).wp K U (fun cM U =>
 af K 103 [v1, cM] U (au (fun ca U =>
 lp v0 v1 v2 U) (aa R))) (aa R)) (aa R)) (
 aj R (.aQ []) U)) (aa R))) (aa R))) (aa R)) (aa R)
def Kc : Prop :=
 af K 169 [a0] U (au (fun v7 U =>
 af K 99 [a0, (.int .u8 9)] U (au (fun v9 U =>
 (aP (some (87, 1)) (some [.a7]) 1 false [(0, v7)]).wp K U (fun v12 U =>
 af K 103 [v9, v12] U (au (fun bF U =>
 iQ 2 (fun v3 v4 U =>
 (bC v4).wp K U (fun fG U =>
 (ag (some 6) fG).wp K U (fun eF U =>
 (aq aK eF U).wp K U (fun eX U =>
 (bB (some false) eX).wp K U (fun v37 U =>
 (ak .eql aE true v37 (.int .i64 1)).wp K U (fun ga U =>
 ao ga (
 aj R v3 U) (
 aj R v4 U)) (aa R)) (aa R)) (aa R)) (aa R)) (aa R)) fun j =>
 cL 3 [a0, v7, v9] U fun lp v0 lP dz U =>
 (aP (some (9, 1)) (some [.str []]) 1 false [(0, (.str rJ))]).wp K U (fun bA U =>
 af K 105 [v0, bA] U (au (fun cM U =>
 ao cM (
 af K 167 [v0, (.int .i64 1)] U (au (fun cg U =>
 (av.cr [.int .u8 0, .str [], .int .i64 0]).wp K U (fun v5 U =>
 (aM (some (true, 3)) v5 cg U).wp K U (fun _ U =>
 (ag (some 0) v5).wp K U (fun cH U =>
 (aq aK cH U).wp K U (fun v20 U =>
 (ak .eql aE true v20 (.int .u8 0)).wp K U (fun v21 U =>
 ad K (ar v21 false) (aq (some (true, 3)) v5 U) (fun cX =>
 ad K (ar v21 false) (av.enter 61 [cX]) (fun v24 =>
 (aR v21 (.bool true) v24).wp K U (fun ek U =>
 ao ek (
 j lP dz U) (
 af K 102 [v0, (.str rJ)] U (au (fun dx U =>
 af K 169 [v0] U (au (fun v30 U =>
 (aP (some (87, 1)) (some [.a7]) 1 false [(0, v30)]).wp K U (fun v31 U =>
 af K 103 [dz, v31] U (au (fun fF U =>
 lp v0 lP dz U) (aa R))) (aa R)) (aa R))) (aa R)))) (aa R)))) (aa R)) (aa R)) (aa R)) (aa R)) (aa R)) (aa R))) (
 j lP dz U)) (aa R))) (aa R)) (aa R))) (aa R)) (aa R))) (aa R))
def Kf : Prop :=
 (eH a0).wp K U (fun v2 U =>
 (ag (some 0) v2).wp K U (fun v5 U =>
 (aq aK v5 U).wp K U (fun v6 U =>
 (ak .eql aE true v6 (.int .u8 3)).wp K U (fun v7 U =>
 ad K (ar v7 false) (ag (some 0) v2) (fun v9 =>
 ad K (ar v7 false) (aq aK v9 U) (fun v10 =>
 ad K (ar v7 false) (ak .eql aE true v10 (.int .u8 4)) (fun v11 =>
 (aR v7 (.bool true) v11).wp K U (fun v12 U =>
 ad K (ar v12 true) (av.val a1) (fun bP =>
 ad K (ar v12 true) (ag (some 1) v2) (fun bA =>
 ad K (ar v12 true) (aq aK bA U) (fun cM =>
 ad K (ar v12 true) (av.enter 178 [bP, cM]) (fun ca =>
 (aR v12 ca (.bool false)).wp K U (fun cg U =>
 aj R cg U) (aa R)))))) (aa R))))) (aa R)) (aa R)) (aa R)) (aa R)
def Kh : Prop :=
 (ak .geq aE false a2 a0).wp K U (fun v9 U =>
 ad K (ar v9 true) (av.val a2) (fun v11 =>
 ad K (ar v9 true) (av.val a1) (fun v12 =>
 ad K (ar v9 true) (ak .leq aE false v11 v12) (fun bF =>
 (aR v9 bF (.bool false)).wp K U (fun bP U =>
 aj R bP U) (aa R))))) (aa R)
def Kj : Prop :=
 (eH a0).wp K U (fun v3 U =>
 (eH a1).wp K U (fun v4 U =>
 (av.cr [.bool false]).wp K U (fun v6 U =>
 (ag (some 0) v3).wp K U (fun bF U =>
 (ag (some 0) bF).wp K U (fun bP U =>
 (aq aK bP U).wp K U (fun bA U =>
 (aq aK v4 U).wp K U (fun cM U =>
 (aG (some (43, 6)) none bA cM).wp K U (fun ca U =>
 (aq (some (true, 6)) ca U).wp K U (fun cg U =>
 (av.cr [.int .u8 0, .str [], .int .i64 0, .int .i64 0, .int .i64 0, .int .i64 0]).wp K U (fun v7 U =>
 (aM (some (true, 6)) v7 cg U).wp K U (fun _ U =>
 (ag (some 0) v7).wp K U (fun v21 U =>
 (aq aK v21 U).wp K U (fun cn U =>
 (fq (some (.i, 204)) (some (.agg [.bool false, .bool false, .bool false, .al])) a2 cn true U).wp K U (fun cX U =>
 (bg cX 0).wp K U (fun v24 U =>
 (bg cX 1).wp K U (fun ek U =>
 (av.cr [.bool false, .bool false, .bool false, .al]).wp K U (fun v8 U =>
 (aM (some (true, 4)) v8 v24 U).wp K U (fun _ U =>
 (fo .not ek).wp K U (fun dx U =>
 ad K (ar dx false) (ag (some 0) v3) (fun cz =>
 ad K (ar dx false) (ag (some 0) cz) (fun v30 =>
 ad K (ar dx false) (aq aK v30 U) (fun v31 =>
 ad K (ar dx false) (bB (some false) v31) (fun fF =>
 ad K (ar dx false) (aq aK v4 U) (fun dL =>
 ad K (ar dx false) (ak .sub aE false fF dL) (fun fG =>
 ad K (ar dx false) (ag (some 5) v7) (fun eF =>
 ad K (ar dx false) (aq aK eF U) (fun eX =>
 ad K (ar dx false) (av.enter 122 [(.int .i64 1), fG, eX]) (fun v37 =>
 ad K (ar dx false) (fo .not v37) (fun ga =>
 (aR dx (.bool true) ga).wp K U (fun iJ U =>
 ad K (ar iJ false) (ag (some 0) v8) (fun jE =>
 ad K (ar iJ false) (aq aK jE U) (fun j5 =>
 ad K (ar iJ false) (ag (some 1) v7) (fun eo =>
 ad K (ar iJ false) (aq aK eo U) (fun oh =>
 ad K (ar iJ false) (ak .neq aE true oh (.str w_)) (fun jX =>
 ad K (ar iJ false) (ak .neq (BT.mk true false false none false) false j5 jX) (fun v46 =>
 (aR iJ (.bool true) v46).wp K U (fun lQ U =>
 ad K (ar lQ false) (ag (some 0) v8) (fun v49 =>
 ad K (ar lQ false) (aq aK v49 U) (fun lx =>
 ad K (ar lQ false) (av.val lx) (fun v51 =>
 ad K (ar v51 true) (ag (some 1) v7) (fun j6 =>
 ad K (ar v51 true) (aq aK j6 U) (fun v53 =>
 ad K (ar v51 true) (av.enter 208 [v53]) (fun lR =>
 ad K (ar v51 true) (fo .not lR) (fun iX =>
 ad K (ar lQ false) (aR v51 iX (.bool false)) (fun mQ =>
 (aR lQ (.bool true) mQ).wp K U (fun ly U =>
 ao ly (
 (aM aK v6 (.bool false) U).wp K U (fun _ U =>
 bl aK v6 U fun r0 =>
 aj R r0 U) (aa R)) (
 (ag (some 2) v7).wp K U (fun lz U =>
 (aq aK lz U).wp K U (fun v59 U =>
 af K 122 [(.int .i64 0), (.int .i64 1000000), v59] U (au (fun qR U =>
 (fo .not qR).wp K U (fun rI U =>
 ad K (ar rI false) (ag (some 3) v7) (fun ox =>
 ad K (ar rI false) (aq aK ox U) (fun om =>
 ad K (ar rI false) (av.enter 122 [(.int .i64 0), (.int .i64 1000000), om]) (fun s0 =>
 ad K (ar rI false) (fo .not s0) (fun zu =>
 (aR rI (.bool true) zu).wp K U (fun pH U =>
 ad K (ar pH false) (ag (some 1) v8) (fun Ea =>
 ad K (ar pH false) (aq aK Ea U) (fun v70 =>
 ad K (ar pH false) (fo .not v70) (fun s8 =>
 ad K (ar pH false) (av.val s8) (fun v72 =>
 ad K (ar v72 true) (ag (some 2) v7) (fun wa =>
 ad K (ar v72 true) (aq aK wa U) (fun s9 =>
 ad K (ar v72 true) (ak .neq aE true s9 (.int .i64 0)) (fun v75 =>
 ad K (ar pH false) (aR v72 v75 (.bool false)) (fun v76 =>
 (aR pH (.bool true) v76).wp K U (fun ta U =>
 ad K (ar ta false) (ag (some 2) v8) (fun Q5 =>
 ad K (ar ta false) (aq aK Q5 U) (fun v80 =>
 ad K (ar ta false) (fo .not v80) (fun MO =>
 ad K (ar ta false) (av.val MO) (fun Ec =>
 ad K (ar Ec true) (ag (some 3) v7) (fun Ed =>
 ad K (ar Ec true) (aq aK Ed U) (fun Gg =>
 ad K (ar Ec true) (ak .neq aE true Gg (.int .i64 0)) (fun v85 =>
 ad K (ar ta false) (aR Ec v85 (.bool false)) (fun MP =>
 (aR ta (.bool true) MP).wp K U (fun v87 U =>
 ao v87 (
 (aM aK v6 (.bool false) U).wp K U (fun _ U =>
 bl aK v6 U fun lM =>
 aj R lM U) (aa R)) (
 (av.cr [.al]).wp K U (fun v10 U =>
 (aq aK v4 U).wp K U (fun MQ U =>
 (ak .add aE true MQ (.int .i64 1)).wp K U (fun WC U =>
 (av.cr [.int .i64 0]).wp K U (fun v11 U =>
 (aM aK v11 WC U).wp K U (fun _ U =>
 (aq (some (true, 1)) v3 U).wp K U (fun Ee U =>
 (aq aK v4 U).wp K U (fun v91 U =>
 af K 81 [Ee, v91] U (au (fun WD U =>
 qO K 1 WD U (fun v93 q U =>
 q.Du (fun U =>
 (fun aF : St =>
 aC K (aq aK v10 aF) (fun Gi =>
 aC K (ag (some 0) v3) (fun Gj =>
 aC K (ag (some 0) Gj) (fun MR =>
 aC K (aq aK MR aF) (fun Q6 =>
 aC K (aG (some (43, 6)) none Q6 v93) (fun v99 =>
 aC K (ag (some 0) v99) (fun Ar =>
 aC K (aq aK Ar aF) (fun aaW =>
 aC K (aP (some (5, 1)) (some [.int .u8 0]) 1 false [(0, aaW)]) (fun O9 =>
 (eZ (some (5, 1)) false Gi O9 U).wp K U (fun Pa U => c8 ((dM Ar ++ []) ++ ((dM MR ++ []) ++ ((dM v10 ++ []) ++ []))) aF U /\
 (aM aK v10 Pa U).wp K U (fun _ U =>
 (fun mZ : St =>
 aC K (aq aK v4 mZ) (fun Pb =>
 aC K (ag (some 5) v7) (fun v105 =>
 aC K (aq aK v105 mZ) (fun Pc =>
 aC K (ak .add aE false Pb Pc) (fun v107 =>
 aC K (ak .sub aE false v107 v93) (fun v109 =>
 aC K (ag (some 0) v3) (fun Pe =>
 aC K (ag (some 0) Pe) (fun Pf =>
 aC K (aq aK Pf mZ) (fun Pg =>
 aC K (aG (some (43, 6)) none Pg v93) (fun Ph =>
 aC K (ag (some 5) Ph) (fun aaX =>
 aC K (aq aK aaX mZ) (fun vY =>
 aC K (av.enter 122 [(.int .i64 1), v109, vY]) (fun v117 =>
 aC K (fo .not v117) (fun Pj =>
 ao Pj (
 (aM aK v6 (.bool false) U).wp K U (fun _ U =>
 q.r U) (fun _ _ => False)) (
 (ag (some 0) v3).wp K U (fun Pk U =>
 (ag (some 0) Pk).wp K U (fun Pm U =>
 (aq aK Pm U).wp K U (fun Pn U =>
 (aG (some (43, 6)) none Pn v93).wp K U (fun v124 U =>
 (ag (some 5) v124).wp K U (fun Po U =>
 (aq aK Po U).wp K U (fun Pp U =>
 (ak .add aE false v93 Pp).wp K U (fun v127 U =>
 (aM aK v11 v127 U).wp K U (fun _ U =>
 q.n U) (fun _ _ => False)) (fun _ _ => False)) (fun _ _ => False)) (fun _ _ => False)) (fun _ _ => False)) (fun _ _ => False)) (fun _ _ => False)) (fun _ _ => False)))))))))))))))) U) (fun _ _ => False)) (fun _ _ => False)))))))))) U) U) (fun U =>
 (aq aK v11 U).wp K U (fun Pq U =>
 (aq aK v4 U).wp K U (fun Pr U =>
 (ag (some 5) v7).wp K U (fun v130 U =>
 (aq aK v130 U).wp K U (fun v131 U =>
 (ak .add aE false Pr v131).wp K U (fun aaZ U =>
 (ak .eql aE false Pq aaZ).wp K U (fun vZ U =>
 ad K (ar vZ true) (aq aK v10 U) (fun yc =>
 ad K (ar vZ true) (ag (some 3) v8) (fun aa0 =>
 ad K (ar vZ true) (aq aK aa0 U) (fun Ps =>
 ao (ar vZ true) (
 af K 209 [yc, Ps] U (au (fun v138 U =>
 (aR vZ v138 (.bool false)).wp K U (fun v139 U =>
 (aM aK v6 v139 U).wp K U (fun _ U =>
 bl aK v6 U fun oM =>
 aj R oM U) (aa R)) (aa R)) (aa R))) (
 (aR vZ (.aQ []) (.bool false)).wp K U (fun Wt U =>
 (aM aK v6 Wt U).wp K U (fun _ U =>
 bl aK v6 U fun uc =>
 aj R uc U) (aa R)) (aa R)))))) (aa R)) (aa R)) (aa R)) (aa R)) (aa R)) (aa R)) (fun i U =>
 Ft (Nat.beq i 0) (
 (aq aK v11 U).wp K U (fun Wj U =>
 (aq aK v4 U).wp K U (fun Wl U =>
 (ag (some 5) v7).wp K U (fun Wm U =>
 (aq aK Wm U).wp K U (fun Wn U =>
 (ak .add aE false Wl Wn).wp K U (fun Wo U =>
 (ak .eql aE false Wj Wo).wp K U (fun sY U =>
 ad K (ar sY true) (aq aK v10 U) (fun Wp =>
 ad K (ar sY true) (ag (some 3) v8) (fun Wq =>
 ad K (ar sY true) (aq aK Wq U) (fun Wr =>
 ao (ar sY true) (
 af K 209 [Wp, Wr] U (au (fun Ws U =>
 (aR sY Ws (.bool false)).wp K U (fun Wu U =>
 (aM aK v6 Wu U).wp K U (fun _ U =>
 bl aK v6 U fun DM =>
 aj R DM U) (aa R)) (aa R)) (aa R))) (
 (aR sY (.aQ []) (.bool false)).wp K U (fun Wv U =>
 (aM aK v6 Wv U).wp K U (fun _ U =>
 bl aK v6 U fun xW =>
 aj R xW U) (aa R)) (aa R)))))) (aa R)) (aa R)) (aa R)) (aa R)) (aa R)) (aa R)) (
 False)) (fun U =>
 bl aK v6 U fun DN =>
 aj R DN U) (fun x U => (aa R) x U)) (aa R))) (aa R)) (aa R)) (aa R)) (aa R)) (aa R)) (aa R)) (aa R))) (aa R)))))))))) (aa R)))))))))) (aa R)))))) (aa R)) (aa R))) (aa R)) (aa R))) (aa R)))))))))) (aa R)))))))) (aa R)))))))))))) (aa R)) (aa R)) (aa R)) (aa R)) (aa R)) (aa R)) (aa R)) (aa R)) (aa R)) (aa R)) (aa R)) (aa R)) (aa R)) (aa R)) (aa R)) (aa R)) (aa R)) (aa R)) (aa R)
def Kl : Prop :=
 af K 210 [a0, a1] U (au (fun v10 U =>
 (ak .eql aE true v10 (.int .i64 (-1))).wp K U (fun v12 U =>
 ao v12 (
 aj R a0 U) (
 (ak .add aE true v10 (.int .i64 1)).wp K U (fun bA U =>
 cL 4 [a0, a1, v10, bA] U fun lp v0 v1 v5 v6 U =>
 (bB (some false) v0).wp K U (fun cg U =>
 (ak .lss aE false v6 cg).wp K U (fun cH U =>
 ao cH (
 iQ 4 (fun mB eN gR sk U =>
 (ak .add aE true sk (.int .i64 1)).wp K U (fun v21 U =>
 lp mB eN gR v21 U) (aa R)) fun j =>
 (aG (some (3, 1)) none v0 v6).wp K U (fun v24 U =>
 (aq aK v24 U).wp K U (fun ek U =>
 (fY K.P v1 [ek]).wp K U (fun v28 U =>
 (fo .not v28).wp K U (fun cz U =>
 ao cz (
 (aG (some (3, 1)) none v0 v5).wp K U (fun dL U =>
 (aM aK dL ek U).wp K U (fun _ U =>
 (ak .add aE true v5 (.int .i64 1)).wp K U (fun eF U =>
 j v0 v1 eF v6 U) (aa R)) (aa R)) (aa R)) (
 j v0 v1 v5 v6 U)) (aa R)) (aa R)) (aa R)) (aa R)) (
 (eE false (some (3, 1)) v0 (some v5) none).wp K U (fun ga U =>
 (yo (some (3, 1)) (some [.int .i64 0]) ga U).wp K U (fun _ U =>
 (eE false (some (3, 1)) v0 none (some v5)).wp K U (fun jE U =>
 aj R jE U) (aa R)) (aa R)) (aa R))) (aa R)) (aa R)) (aa R))) (aa R)) (aa R))
def Ko : Prop :=
 (aq aK a1 U).wp K U (fun v5 U =>
 (ak .leq aE false a0 v5).wp K U (fun v6 U =>
 aj R v6 U) (aa R)) (aa R)
def Ks : Prop :=
 iQ 1 (fun v4 U =>
 ao v4 (
 aj R (.bool true) U) (
 aj R (.bool false) U)) fun j =>
 (ak .eql aE true a0 (.int .u8 2)).wp K U (fun v5 U =>
 ao v5 (
 j v5 U) (
 (ak .eql aE true a0 (.int .u8 3)).wp K U (fun v6 U =>
 ao v6 (
 j v6 U) (
 (ak .eql aE true a0 (.int .u8 4)).wp K U (fun v7 U =>
 ao v7 (
 j v7 U) (
 (ak .eql aE true a0 (.int .u8 5)).wp K U (fun v8 U =>
 ao v8 (
 j v8 U) (
 (ak .eql aE true a0 (.int .u8 12)).wp K U (fun v9 U =>
 ao v9 (
 j v9 U) (
 (ak .eql aE true a0 (.int .u8 13)).wp K U (fun v10 U =>
 ao v10 (
 j v10 U) (
 (ak .eql aE true a0 (.int .u8 14)).wp K U (fun v11 U =>
 ao v11 (
 j v11 U) (
 (ak .eql aE true a0 (.int .u8 16)).wp K U (fun v12 U =>
 ao v12 (
 j v12 U) (
 (ak .eql aE true a0 (.int .u8 31)).wp K U (fun bF U =>
 ao bF (
 j bF U) (
 (ak .eql aE true a0 (.int .u8 32)).wp K U (fun bP U =>
 ao bP (
 j bP U) (
 (ak .eql aE true a0 (.int .u8 33)).wp K U (fun bA U =>
 ao bA (
 j bA U) (
 (ak .eql aE true a0 (.int .u8 34)).wp K U (fun cM U =>
 ao cM (
 j cM U) (
 (ak .eql aE true a0 (.int .u8 37)).wp K U (fun ca U =>
 j ca U) (aa R))) (aa R))) (aa R))) (aa R))) (aa R))) (aa R))) (aa R))) (aa R))) (aa R))) (aa R))) (aa R))) (aa R))) (aa R)
def Ku : Prop :=
 (c7 (some [(0, 1), (1, 1), (2, 1)]) (some [.int .u8 0, .str [], .int .i64 0]) none [(0, (.int .u8 1)), (1, a0)]).wp K U (fun v4 U =>
 af K 211 [v4] U (au (fun v5 U =>
 aj R v5 U) (aa R))) (aa R)
def Kw : Prop :=
 af K 141 [a0] U (au (fun v4 U =>
 ad K (ar v4 false) (av.val a0) (fun v6 =>
 ad K (ar v4 false) (ak .eql aE true v6 (.int .u8 12)) (fun v7 =>
 (aR v4 (.bool true) v7).wp K U (fun v8 U =>
 ad K (ar v8 false) (av.val a0) (fun v10 =>
 ad K (ar v8 false) (ak .eql aE true v10 (.int .u8 14)) (fun v11 =>
 (aR v8 (.bool true) v11).wp K U (fun v12 U =>
 ad K (ar v12 false) (av.val a0) (fun bP =>
 ad K (ar v12 false) (ak .eql aE true bP (.int .u8 25)) (fun bA =>
 (aR v12 (.bool true) bA).wp K U (fun cM U =>
 ad K (ar cM false) (av.val a0) (fun cg =>
 ad K (ar cM false) (ak .eql aE true cg (.int .u8 26)) (fun cH =>
 (aR cM (.bool true) cH).wp K U (fun v20 U =>
 aj R v20 U) (aa R)))) (aa R)))) (aa R)))) (aa R)))) (aa R))
def Ky : Prop :=
 (ak .geq aE true a0 (.int .i64 0)).wp K U (fun v4 U =>
 ad K (ar v4 true) (av.val a0) (fun v6 =>
 ad K (ar v4 true) (ak .leq aE true v6 (.int .i64 1000000)) (fun v7 =>
 (aR v4 v7 (.bool false)).wp K U (fun v8 U =>
 aj R v8 U) (aa R)))) (aa R)
def KA : Prop :=
 cL 2 [a0, (.int .i64 0)] U fun lp v0 v3 U =>
 (bB (some false) v0).wp K U (fun v6 U =>
 (ak .lss aE false v3 v6).wp K U (fun v7 U =>
 ao v7 (
 (aG (some (5, 1)) none v0 v3).wp K U (fun v12 U =>
 (aq aK v12 U).wp K U (fun bF U =>
 af K 191 [bF] U (au (fun bP U =>
 (fo .not bP).wp K U (fun bA U =>
 ao bA (
 aj R (.bool false) U) (
 (ak .add aE true v3 (.int .i64 1)).wp K U (fun v9 U =>
 lp v0 v9 U) (aa R))) (aa R)) (aa R))) (aa R)) (aa R)) (
 aj R (.bool true) U)) (aa R)) (aa R)
def KD : Prop :=
 af K 141 [a0] U (au (fun v4 U =>
 ad K (ar v4 false) (av.val a0) (fun v6 =>
 ad K (ar v4 false) (ak .eql aE true v6 (.int .u8 8)) (fun v7 =>
 (aR v4 (.bool true) v7).wp K U (fun v8 U =>
 aj R v8 U) (aa R)))) (aa R))
def KF : Prop :=
 cL 3 [a0, a1, (.int .i64 0)] U fun lp v0 v1 v5 U =>
 (bB (some false) v0).wp K U (fun v8 U =>
 (ak .lss aE false v5 v8).wp K U (fun v9 U =>
 ao v9 (
 (aG (some (5, 1)) none v0 v5).wp K U (fun bP U =>
 (aq aK bP U).wp K U (fun bA U =>
 (ak .neq aE false bA v1).wp K U (fun ca U =>
 ao ca (
 aj R (.bool false) U) (
 (ak .add aE true v5 (.int .i64 1)).wp K U (fun v11 U =>
 lp v0 v1 v11 U) (aa R))) (aa R)) (aa R)) (aa R)) (
 aj R (.bool true) U)) (aa R)) (aa R)
def KH : Prop :=
 (ak .eql aE true a0 (.int .u8 6)).wp K U (fun v4 U =>
 ad K (ar v4 false) (av.val a0) (fun v6 =>
 ad K (ar v4 false) (ak .eql aE true v6 (.int .u8 7)) (fun v7 =>
 (aR v4 (.bool true) v7).wp K U (fun v8 U =>
 aj R v8 U) (aa R)))) (aa R)
def KJ : Prop :=
 (ak .geq aE true a0 (.int .u8 9)).wp K U (fun v4 U =>
 ad K (ar v4 true) (av.val a0) (fun v6 =>
 ad K (ar v4 true) (ak .leq aE true v6 (.int .u8 34)) (fun v7 =>
 (aR v4 v7 (.bool false)).wp K U (fun v8 U =>
 aj R v8 U) (aa R)))) (aa R)
def KL : Prop :=
 cL 2 [a0, (.int .i64 0)] U fun lp v0 v3 U =>
 (bB (some false) v0).wp K U (fun v6 U =>
 (ak .lss aE false v3 v6).wp K U (fun v7 U =>
 ao v7 (
 (aG (some (5, 1)) none v0 v3).wp K U (fun v12 U =>
 (aq aK v12 U).wp K U (fun bF U =>
 af K 141 [bF] U (au (fun bP U =>
 (fo .not bP).wp K U (fun bA U =>
 ao bA (
 aj R (.bool false) U) (
 (ak .add aE true v3 (.int .i64 1)).wp K U (fun v9 U =>
 lp v0 v9 U) (aa R))) (aa R)) (aa R))) (aa R)) (aa R)) (
 aj R (.bool true) U)) (aa R)) (aa R)
def KN : Prop :=
 cL 2 [a0, (.int .i64 0)] U fun lp v0 v3 U =>
 (bB (some false) v0).wp K U (fun v6 U =>
 (ak .lss aE false v3 v6).wp K U (fun v7 U =>
 ao v7 (
 (aG (some (5, 1)) none v0 v3).wp K U (fun v12 U =>
 (aq aK v12 U).wp K U (fun bF U =>
 af K 142 [bF] U (au (fun bP U =>
 (fo .not bP).wp K U (fun bA U =>
 ao bA (
 aj R (.bool false) U) (
 (ak .add aE true v3 (.int .i64 1)).wp K U (fun v9 U =>
 lp v0 v9 U) (aa R))) (aa R)) (aa R))) (aa R)) (aa R)) (
 aj R (.bool true) U)) (aa R)) (aa R)
def KP : Prop :=
 cL 2 [a0, (.int .i64 0)] U fun lp v0 v3 U =>
 (bB (some false) v0).wp K U (fun v6 U =>
 (ak .lss aE false v3 v6).wp K U (fun v7 U =>
 ao v7 (
 (aG (some (5, 1)) none v0 v3).wp K U (fun v12 U =>
 (aq aK v12 U).wp K U (fun bF U =>
 af K 142 [bF] U (au (fun bP U =>
 (fo .not bP).wp K U (fun bA U =>
 ad K (ar bA true) (av.val v0) (fun ca =>
 ad K (ar bA true) (av.val v3) (fun cg =>
 ad K (ar bA true) (aG (some (5, 1)) none ca cg) (fun cH =>
 ad K (ar bA true) (aq aK cH U) (fun v20 =>
 ad K (ar bA true) (ak .neq aE true v20 (.int .u8 35)) (fun v21 =>
 (aR bA v21 (.bool false)).wp K U (fun cn U =>
 ad K (ar cn true) (av.val v0) (fun v24 =>
 ad K (ar cn true) (av.val v3) (fun ek =>
 ad K (ar cn true) (aG (some (5, 1)) none v24 ek) (fun dK =>
 ad K (ar cn true) (aq aK dK U) (fun dx =>
 ad K (ar cn true) (ak .neq aE true dx (.int .u8 36)) (fun v28 =>
 (aR cn v28 (.bool false)).wp K U (fun cz U =>
 ao cz (
 aj R (.bool false) U) (
 (ak .add aE true v3 (.int .i64 1)).wp K U (fun v9 U =>
 lp v0 v9 U) (aa R))) (aa R))))))) (aa R))))))) (aa R)) (aa R))) (aa R)) (aa R)) (
 aj R (.bool true) U)) (aa R)) (aa R)
def KT : Prop :=
 (aP (some (178, 1)) (some [.int .i64 0]) 1 false [(0, (.int .i64 0))]).wp K U (fun v4 U =>
 af K 151 [a0, v4] U (au (fun v5 U =>
 (fo .not v5).wp K U (fun v6 U =>
 aj R v6 U) (aa R)) (aa R))) (aa R)
def KV : Prop :=
 cL 4 [a0, a1, a2, (.int .i64 0)] U fun lp v0 v1 v2 v4 U =>
 (aq aK v1 U).wp K U (fun v9 U =>
 (bB (some true) v9).wp K U (fun v10 U =>
 (ak .lss aE false v4 v10).wp K U (fun v11 U =>
 ao v11 (
 (aq aK v1 U).wp K U (fun v12 U =>
 (eg true none none v12 v4).wp K U (fun bP U =>
 iQ 6 (fun mB eN hU dz Yn v24 U =>
 ao v24 (
 (ak .add aE true dz (.int .i64 1)).wp K U (fun v28 U =>
 lp mB eN hU v28 U) (aa R)) (
 (ak .eql aE true Yn (.int .u8 126)).wp K U (fun v30 U =>
 ao v30 (
 (aq aK eN U).wp K U (fun fF U =>
 (eE true none fF (some dz) none).wp K U (fun fG U =>
 af K 148 [fG, (.str zw)] U (au (fun eF U =>
 (bg eF 0).wp K U (fun eX U =>
 (bg eF 1).wp K U (fun v37 U =>
 (bg eF 2).wp K U (fun ga U =>
 (fY K.P mB [dz, eX]).wp K U (fun j5 U =>
 (fo .not j5).wp K U (fun eo U =>
 ao eo (
 aj R (.aQ []) U) (
 (bB (some true) eX).wp K U (fun v46 U =>
 (ak .add aE false dz v46).wp K U (fun lQ U =>
 lp mB eN hU lQ U) (aa R)) (aa R))) (aa R)) (aa R)) (aa R)) (aa R)) (aa R)) (aa R))) (aa R)) (aa R)) (
 (fY K.P mB [dz, (.str w_)]).wp K U (fun ca U =>
 (fo .not ca).wp K U (fun cg U =>
 ao cg (
 aj R (.aQ []) U) (
 (aq aK hU U).wp K U (fun v20 U =>
 (fY K.P v20 [dz]).wp K U (fun cn U =>
 (ak .add aE false dz cn).wp K U (fun cX U =>
 lp mB eN hU cX U) (aa R)) (aa R)) (aa R))) (aa R)) (aa R))) (aa R))) fun j =>
 (ak .eql aE true bP (.int .u8 32)).wp K U (fun ek U =>
 ao ek (
 j v0 v1 v2 v4 bP ek U) (
 (ak .eql aE true bP (.int .u8 10)).wp K U (fun dK U =>
 j v0 v1 v2 v4 bP dK U) (aa R))) (aa R)) (aa R)) (aa R)) (
 aj R (.aQ []) U)) (aa R)) (aa R)) (aa R)
def VS : Prop :=
 af K 212 [a0, a1] U (au (fun v9 U =>
 (bg v9 0).wp K U (fun v10 U =>
 (bg v9 1).wp K U (fun v11 U =>
 (bg v9 2).wp K U (fun v12 U =>
 aj R (.aQ [v10, v11, v12]) U) (aa R)) (aa R)) (aa R)) (aa R))
def KY : Prop :=
 cL 2 [a0, (.int .i64 0)] U fun lp v0 v2 U =>
 (bB (some true) v0).wp K U (fun v5 U =>
 (ak .lss aE false v2 v5).wp K U (fun v6 U =>
 ad K (ar v6 true) (av.val v0) (fun v8 =>
 ad K (ar v6 true) (av.val v2) (fun v9 =>
 ad K (ar v6 true) (eg true none none v8 v9) (fun v10 =>
 ad K (ar v6 true) (aP (some (178, 1)) (some [.int .i64 0]) 3 false [(0, (.int .i64 2)), (1, (.int .i64 3)), (2, (.int .i64 4))]) (fun v11 =>
 ad K (ar v6 true) (av.enter 151 [v10, v11]) (fun v12 =>
 (aR v6 v12 (.bool false)).wp K U (fun bF U =>
 ao bF (
 (ak .add aE true v2 (.int .i64 1)).wp K U (fun bA U =>
 lp v0 bA U) (aa R)) (
 aj R v2 U)) (aa R))))))) (aa R)) (aa R)
def K2 : Prop :=
 (av.cr [.int .u8 0, .str [], .int .i64 0]).wp K U (fun v2 U =>
 (c7 none (some [.str [], .str []]) (some (2, 9, 1)) [(0, (.str cV)), (1, (.str iK))]).wp K U (fun v6 U =>
 cL 4 [a0, v2, v6, (.int .i64 0)] U fun lp v0 hU sk v7 U =>
 (ak .lss aE true v7 (.int .i64 2)).wp K U (fun v8 U =>
 ao v8 (
 (eg false (some (2, 9, 1)) aK sk v7).wp K U (fun v9 U =>
 af K 213 [v0, v9] U (au (fun v12 U =>
 ao v12 (
 (c7 (some [(0, 1), (1, 1), (2, 1)]) (some [.int .u8 0, .str [], .int .i64 0]) none [(0, (.int .u8 4)), (1, v9)]).wp K U (fun bP U =>
 (aM (some (true, 3)) hU bP U).wp K U (fun _ U =>
 bl (some (true, 3)) hU U fun r0 =>
 aj R (.aQ [r0, (.int .i64 0)]) U) (aa R)) (aa R)) (
 (ak .add aE true v7 (.int .i64 1)).wp K U (fun bA U =>
 lp v0 hU sk bA U) (aa R))) (aa R))) (aa R)) (
 (ak .eql aE true v0 (.str w_)).wp K U (fun ca U =>
 ad K (ar ca false) (av.val v0) (fun cH =>
 ad K (ar ca false) (eg true none none cH (.int .i64 0)) (fun v20 =>
 ad K (ar ca false) (av.enter 214 [(.str de), v20]) (fun v21 =>
 ad K (ar ca false) (ak .lss aE true v21 (.int .i64 0)) (fun cn =>
 (aR ca (.bool true) cn).wp K U (fun cX U =>
 ao cX (
 (c7 (some [(0, 1), (1, 1), (2, 1)]) (some [.int .u8 0, .str [], .int .i64 0]) none []).wp K U (fun v24 U =>
 (aM (some (true, 3)) hU v24 U).wp K U (fun _ U =>
 bl (some (true, 3)) hU U fun lM =>
 aj R (.aQ [lM, (.int .i64 4)]) U) (aa R)) (aa R)) (
 (eE true none v0 none (some (.int .i64 1))).wp K U (fun dK U =>
 (c7 (some [(0, 1), (1, 1), (2, 1)]) (some [.int .u8 0, .str [], .int .i64 0]) none [(0, (.int .u8 4)), (1, dK)]).wp K U (fun dx U =>
 (aM (some (true, 3)) hU dx U).wp K U (fun _ U =>
 bl (some (true, 3)) hU U fun oM =>
 aj R (.aQ [oM, (.int .i64 0)]) U) (aa R)) (aa R)) (aa R))) (aa R)))))) (aa R))) (aa R)) (aa R)) (aa R)
def VT : Prop :=
 af K 216 [a0] U (au (fun v7 U =>
 af K 215 [a1, v7] U (au (fun v8 U =>
 aj R v8 U) (aa R))) (aa R))
def K5 : Prop :=
 (bB (some true) a0).wp K U (fun v6 U =>
 cL 4 [a0, (.int .i64 0), v6, (.int .i64 0)] U fun lp v0 v3 sk v7 U =>
 (ak .lss aE false v7 sk).wp K U (fun v8 U =>
 ao v8 (
 (eg true none none v0 v7).wp K U (fun v12 U =>
 (aP (some (178, 1)) (some [.int .i64 0]) 1 false [(0, (.int .i64 2))]).wp K U (fun bF U =>
 af K 151 [v12, bF] U (au (fun bP U =>
 (fo .not bP).wp K U (fun bA U =>
 ao bA (
 aj R (.int .i64 4) U) (
 (ak .mul aE true (.int .i64 10) v3).wp K U (fun ca U =>
 (eg true none none v0 v7).wp K U (fun v20 U =>
 (ak .sub aE true v20 (.int .u8 48)).wp K U (fun v21 U =>
 (tp (some .i64) true false false v21).wp K U (fun cn U =>
 (ak .add aE false ca cn).wp K U (fun cX U =>
 (rY cX (.int .i64 1000001)).wp K U (fun v24 U =>
 (ak .add aE true v7 (.int .i64 1)).wp K U (fun ek U =>
 lp v0 v24 sk ek U) (aa R)) (aa R)) (aa R)) (aa R)) (aa R)) (aa R)) (aa R))) (aa R)) (aa R))) (aa R)) (aa R)) (
 (bB (some true) v0).wp K U (fun v28 U =>
 (ak .gtr aE true v28 (.int .i64 1)).wp K U (fun cz U =>
 ad K (ar cz true) (av.val v0) (fun v31 =>
 ad K (ar cz true) (eg true none none v31 (.int .i64 0)) (fun fF =>
 ad K (ar cz true) (ak .eql aE true fF (.int .u8 48)) (fun dL =>
 (aR cz dL (.bool false)).wp K U (fun fG U =>
 ao fG (
 aj R (.int .i64 4) U) (
 (ak .gtr aE true v3 (.int .i64 1000000)).wp K U (fun v37 U =>
 ao v37 (
 aj R (.int .i64 3) U) (
 aj R (.int .i64 0) U)) (aa R))) (aa R))))) (aa R)) (aa R))) (aa R)) (aa R)
def Qk : Prop :=
 (eH a0).wp K U (fun v1 U =>
 (ag (some 0) v1).wp K U (fun v4 U =>
 (aq aK v4 U).wp K U (fun v5 U =>
 (bB (some false) v5).wp K U (fun v6 U =>
 (ak .gtr aE true v6 (.int .i64 900)).wp K U (fun v7 U =>
 ao v7 (
 aj R (.int .i64 5) U) (
 (aq (some (true, 1)) v1 U).wp K U (fun v9 U =>
 (c7 (some [(0, 1)]) (some [.al]) none [(0, v9)]).wp K U (fun v10 U =>
 af K 68 [v10] U (au (fun v11 U =>
 (fo .not v11).wp K U (fun v12 U =>
 ao v12 (
 aj R (.int .i64 4) U) (
 (aq (some (true, 1)) v1 U).wp K U (fun bP U =>
 af K 69 [bP] U (au (fun bA U =>
 ao bA (
 aj R (.int .i64 5) U) (
 aj R (.int .i64 0) U)) (aa R))) (aa R))) (aa R)) (aa R))) (aa R)) (aa R))) (aa R)) (aa R)) (aa R)) (aa R)) (aa R)
def Ql : Prop :=
 (eH a0).wp K U (fun v1 U =>
 (ag (some 0) v1).wp K U (fun v10 U =>
 (aq aK v10 U).wp K U (fun v11 U =>
 (bB (some false) v11).wp K U (fun bF U =>
 (ak .gtr aE true bF (.int .i64 900)).wp K U (fun bP U =>
 ao bP (
 aj R (.int .i64 5) U) (
 af K 70 [v11] U (au (fun cM U =>
 (fo .not cM).wp K U (fun ca U =>
 ad K (ar ca false) (av.val v11) (fun cH =>
 ad K (ar ca false) (aG (some (43, 6)) none cH (.int .i64 0)) (fun v20 =>
 ad K (ar ca false) (ag (some 0) v20) (fun v21 =>
 ad K (ar ca false) (aq aK v21 U) (fun cn =>
 ad K (ar ca false) (ak .neq aE true cn (.int .u8 1)) (fun cX =>
 (aR ca (.bool true) cX).wp K U (fun v24 U =>
 ao v24 (
 aj R (.int .i64 4) U) (
 cL 2 [v11, (.int .i64 0)] U fun lp v3 v4 U =>
 (bB (some false) v3).wp K U (fun dx U =>
 (ak .lss aE false v4 dx).wp K U (fun v28 U =>
 ao v28 (
 af K 67 [v3, v4] U (au (fun dL U =>
 cL 5 [v3, v4, .al, dL, (.int .i64 0)] U fun tM lP dz v5 v6 v7 U =>
 (bB (some false) v6).wp K U (fun eX U =>
 (ak .lss aE false v7 eX).wp K U (fun v37 U =>
 ao v37 (
 (aG (some (3, 1)) none v6 v7).wp K U (fun oh U =>
 (aq aK oh U).wp K U (fun jX U =>
 (aG (some (43, 6)) none lP jX).wp K U (fun v46 U =>
 (ag (some 0) v46).wp K U (fun lQ U =>
 (aq aK lQ U).wp K U (fun gV U =>
 (aP (some (5, 1)) (some [.int .u8 0]) 1 false [(0, gV)]).wp K U (fun v49 U =>
 (eZ (some (5, 1)) false v5 v49 U).wp K U (fun lx U =>
 (ak .add aE true v7 (.int .i64 1)).wp K U (fun iJ U =>
 tM lP dz lx v6 iJ U) (aa R)) (aa R)) (aa R)) (aa R)) (aa R)) (aa R)) (aa R)) (aa R)) (
 (ak .gtr aE true dz (.int .i64 0)).wp K U (fun j6 U =>
 ad K (ar j6 true) (av.val lP) (fun lR =>
 ad K (ar j6 true) (av.val dz) (fun iX =>
 ad K (ar j6 true) (aG (some (43, 6)) none lR iX) (fun mQ =>
 ad K (ar j6 true) (ag (some 0) mQ) (fun ly =>
 ad K (ar j6 true) (aq aK ly U) (fun lz =>
 ad K (ar j6 true) (ak .eql aE true lz (.int .u8 1)) (fun v59 =>
 (aR j6 v59 (.bool false)).wp K U (fun qR U =>
 ad K (ar qR false) (av.val lP) (fun sZ =>
 ad K (ar qR false) (av.val dz) (fun ox =>
 ad K (ar qR false) (aG (some (43, 6)) none sZ ox) (fun om =>
 ad K (ar qR false) (aq (some (true, 6)) om U) (fun s0 =>
 ad K (ar qR false) (av.enter 71 [s0]) (fun zu =>
 ad K (ar qR false) (fo .not zu) (fun pH =>
 (aR qR (.bool true) pH).wp K U (fun qS U =>
 ad K (ar qS false) (av.val lP) (fun v70 =>
 ad K (ar qS false) (av.val dz) (fun s8 =>
 ad K (ar qS false) (aG (some (43, 6)) none v70 s8) (fun v72 =>
 ad K (ar qS false) (ag (some 0) v72) (fun wa =>
 ad K (ar qS false) (aq aK wa U) (fun s9 =>
 ad K (ar qS false) (av.val v5) (fun v75 =>
 ad K (ar qS false) (av.enter 72 [s9, v75]) (fun v76 =>
 ad K (ar qS false) (fo .not v76) (fun ta =>
 (aR qS (.bool true) ta).wp K U (fun Eb U =>
 ao Eb (
 aj R (.int .i64 4) U) (
 (ak .add aE true dz (.int .i64 1)).wp K U (fun v30 U =>
 lp lP v30 U) (aa R))) (aa R)))))))))) (aa R)))))))) (aa R)))))))) (aa R))) (aa R)) (aa R)) (aa R))) (
 af K 73 [v3] U (au (fun v80 U =>
 cL 3 [v3, v80, (.int .i64 0)] U fun Ds Pt v8 v9 U =>
 (bB (some false) Pt).wp K U (fun Ed U =>
 (ak .lss aE false v9 Ed).wp K U (fun Gg U =>
 ao Gg (
 (aG (some (3, 1)) none v8 v9).wp K U (fun WC U =>
 (aq aK WC U).wp K U (fun Ee U =>
 (ak .gtr aE true Ee (.int .i64 60)).wp K U (fun v91 U =>
 ao v91 (
 aj R (.int .i64 5) U) (
 (ak .add aE true v9 (.int .i64 1)).wp K U (fun MP U =>
 Ds Pt v8 MP U) (aa R))) (aa R)) (aa R)) (aa R)) (
 af K 67 [Pt, (.int .i64 0)] U (au (fun v93 U =>
 (bB (some false) v93).wp K U (fun Gi U =>
 (ak .gtr aE true Gi (.int .i64 24)).wp K U (fun Gj U =>
 ao Gj (
 aj R (.int .i64 5) U) (
 aj R (.int .i64 0) U)) (aa R)) (aa R)) (aa R)))) (aa R)) (aa R)) (aa R)))) (aa R)) (aa R))) (aa R))))))) (aa R)) (aa R)))) (aa R)) (aa R)) (aa R)) (aa R)) (aa R)
def Qm : Prop :=
 (eH a0).wp K U (fun v1 U =>
 (av.cr [.al]).wp K U (fun v2 U =>
 (av.cr [.int .i64 0]).wp K U (fun v3 U =>
 (av.cr [.int .i64 0]).wp K U (fun v4 U =>
 (aq aK v1 U).wp K U (fun bP U =>
 af K 74 [bP] U (au (fun bA U =>
 (bg bA 0).wp K U (fun cM U =>
 (bg bA 1).wp K U (fun ca U =>
 (ak .neq aE true ca (.int .i64 0)).wp K U (fun cH U =>
 ao cH (
 (aM aK v2 .al U).wp K U (fun _ U =>
 (aM aK v3 cM U).wp K U (fun _ U =>
 (aM aK v4 ca U).wp K U (fun _ U =>
 bl aK v2 U fun r0 =>
 bl aK v3 U fun r1 =>
 bl aK v4 U fun r2 =>
 aj R (.aQ [r0, r1, r2]) U) (aa R)) (aa R)) (aa R)) (
 (av.cr [.al]).wp K U (fun v7 U =>
 (aq aK v1 U).wp K U (fun cX U =>
 af K 76 [cX, (.func (.func 75) [] [v7])] U (au (fun ek U =>
 qO K 2 ek U (fun dK dx q U =>
 q.Du (fun U =>
 (ak .neq aE true dx (.str w_)).wp K U (fun cz U =>
 ao cz (
 q.n U) (
 (aq aK v1 U).wp K U (fun v31 U =>
 (eE true none v31 (some dK) none).wp K U (fun dL U =>
 af K 77 [dL] U (au (fun fG U =>
 (bg fG 0).wp K U (fun eF U =>
 (bg fG 1).wp K U (fun eX U =>
 (av.cr [.int .u8 0, .str [], .int .i64 0]).wp K U (fun v11 U =>
 (aM (some (true, 3)) v11 eF U).wp K U (fun _ U =>
 iQ 7 (fun hU lP dz nr v9 zq v12 U =>
 (ak .neq aE true v12 (.int .i64 0)).wp K U (fun jX U =>
 ao jX (
 (aM aK hU .al U).wp K U (fun _ U =>
 (aM aK lP v9 U).wp K U (fun _ U =>
 (aM aK dz v12 U).wp K U (fun _ U =>
 q.r U) (fun _ _ => False)) (fun _ _ => False)) (fun _ _ => False)) (
 (ag (some 2) zq).wp K U (fun v49 U =>
 (aM aK v49 v9 U).wp K U (fun _ U =>
 (aq aK nr U).wp K U (fun lx U =>
 (aq (some (true, 3)) zq U).wp K U (fun v51 U =>
 (aP (some (51, 3)) (some [.int .u8 0, .str [], .int .i64 0]) 1 false [(0, v51)]).wp K U (fun j6 U =>
 (eZ (some (51, 3)) false lx j6 U).wp K U (fun v53 U =>
 (aM aK nr v53 U).wp K U (fun _ U =>
 q.n U) (fun _ _ => False)) (fun _ _ => False)) (fun _ _ => False)) (fun _ _ => False)) (fun _ _ => False)) (fun _ _ => False)) (fun _ _ => False))) (fun _ _ => False)) fun j =>
 (ak .eql aE true eX (.int .i64 0)).wp K U (fun ga U =>
 ad K (ar ga true) (aq aK v7 U) (fun v40 =>
 ad K (ar ga true) (bB (some false) v40) (fun jE =>
 ad K (ar ga true) (ak .eql aE true jE (.int .i64 900)) (fun j5 =>
 (aR ga j5 (.bool false)).wp K U (fun eo U =>
 ao eo (
 j v2 v3 v4 v7 dK v11 (.int .i64 5) U) (
 j v2 v3 v4 v7 dK v11 eX U)) (fun _ _ => False))))) (fun _ _ => False)) (fun _ _ => False)) (fun _ _ => False)) (fun _ _ => False)) (fun _ _ => False)) (fun _ _ => False))) (fun _ _ => False)) (fun _ _ => False))) (fun _ _ => False)) U) (fun U =>
 (aq aK v7 U).wp K U (fun lR U =>
 (aM aK v2 lR U).wp K U (fun _ U =>
 (aM aK v3 (.int .i64 0) U).wp K U (fun _ U =>
 (aM aK v4 (.int .i64 0) U).wp K U (fun _ U =>
 bl aK v2 U fun lM =>
 bl aK v3 U fun Of =>
 bl aK v4 U fun aaK =>
 aj R (.aQ [lM, Of, aaK]) U) (aa R)) (aa R)) (aa R)) (aa R)) (fun i U =>
 Ft (Nat.beq i 0) (
 (aq aK v7 U).wp K U (fun Yr U =>
 (aM aK v2 Yr U).wp K U (fun _ U =>
 (aM aK v3 (.int .i64 0) U).wp K U (fun _ U =>
 (aM aK v4 (.int .i64 0) U).wp K U (fun _ U =>
 bl aK v2 U fun oM =>
 bl aK v3 U fun Og =>
 bl aK v4 U fun aaL =>
 aj R (.aQ [oM, Og, aaL]) U) (aa R)) (aa R)) (aa R)) (aa R)) (
 False)) (fun U =>
 bl aK v2 U fun uc =>
 bl aK v3 U fun aaJ =>
 bl aK v4 U fun aaM =>
 aj R (.aQ [uc, aaJ, aaM]) U) (fun x U => (aa R) x U)) (aa R))) (aa R)) (aa R))) (aa R)) (aa R)) (aa R)) (aa R))) (aa R)) (aa R)) (aa R)) (aa R)) (aa R)
def Qn : Prop :=
 (eH a0).wp K U (fun v2 U =>
 (eH a1).wp K U (fun v3 U =>
 (aq (some (true, 1)) v2 U).wp K U (fun v6 U =>
 af K 82 [v6, (.int .i64 0), (.func (.func 83) [] [v3])] U (au (fun v8 U =>
 (bg v8 0).wp K U (fun v9 U =>
 (bg v8 1).wp K U (fun v10 U =>
 aj R (.aQ [v9, v10]) U) (aa R)) (aa R)) (aa R))) (aa R)) (aa R)) (aa R)
def Qo : Prop :=
 (eH a0).wp K U (fun v2 U =>
 (aq (some (true, 1)) v2 U).wp K U (fun v8 U =>
 af K 31 [v8] U (au (fun v9 U =>
 (ak .neq aE true v9 (.int .i64 0)).wp K U (fun v11 U =>
 ao v11 (
 aj R (.aQ [(.int .i64 0), v9]) U) (
 (aq (some (true, 1)) v2 U).wp K U (fun bF U =>
 af K 86 [bF, a1] U (au (fun bA U =>
 (ak .geq aE true bA (.int .i64 0)).wp K U (fun ca U =>
 ao ca (
 aj R (.aQ [bA, (.int .i64 0)]) U) (
 aj R (.aQ [(.int .i64 0), (.int .i64 7)]) U)) (aa R)) (aa R))) (aa R))) (aa R)) (aa R))) (aa R)) (aa R)
def Qp : Prop :=
 (eH a0).wp K U (fun v1 U =>
 (av.cr [.al]).wp K U (fun v2 U =>
 (aq (some (true, 1)) v1 U).wp K U (fun v4 U =>
 af K 87 [v4, (.int .i64 0), (.func (.func 88) [] [])] U (au (fun v5 U =>
 (bg v5 0).wp K U (fun v6 U =>
 (bg v5 1).wp K U (fun v7 U =>
 (aM (some (true, 1)) v2 v6 U).wp K U (fun _ U =>
 bl (some (true, 1)) v2 U fun r0 =>
 aj R (.aQ [r0, v7]) U) (aa R)) (aa R)) (aa R)) (aa R))) (aa R)) (aa R)) (aa R)
def Qq : Prop :=
 (eH a0).wp K U (fun v1 U =>
 (av.cr [.al]).wp K U (fun v2 U =>
 (aq (some (true, 1)) v1 U).wp K U (fun v7 U =>
 af K 31 [v7] U (au (fun v8 U =>
 (ak .neq aE true v8 (.int .i64 0)).wp K U (fun v10 U =>
 ao v10 (
 (c7 (some [(0, 1)]) (some [.al]) none []).wp K U (fun v11 U =>
 (aM (some (true, 1)) v2 v11 U).wp K U (fun _ U =>
 bl (some (true, 1)) v2 U fun r0 =>
 aj R (.aQ [r0, v8]) U) (aa R)) (aa R)) (
 (aq (some (true, 1)) v1 U).wp K U (fun bF U =>
 af K 26 [bF] U (au (fun bP U =>
 (av.cr [.al]).wp K U (fun v5 U =>
 (aM (some (true, 1)) v5 bP U).wp K U (fun _ U =>
 cL 3 [v2, v5, (.int .i64 0)] U fun lp hU gR v6 U =>
 (ag (some 0) gR).wp K U (fun cM U =>
 (aq aK cM U).wp K U (fun ca U =>
 (bB (some false) ca).wp K U (fun cg U =>
 (ak .lss aE false v6 cg).wp K U (fun cH U =>
 ao cH (
 (ag (some 0) gR).wp K U (fun cn U =>
 (aq aK cn U).wp K U (fun cX U =>
 (aG (some (43, 6)) none cX v6).wp K U (fun ek U =>
 (ag (some 4) ek).wp K U (fun dK U =>
 (aM aK dK (.int .i64 0) U).wp K U (fun _ U =>
 (ak .add aE true v6 (.int .i64 1)).wp K U (fun v21 U =>
 lp hU gR v21 U) (aa R)) (aa R)) (aa R)) (aa R)) (aa R)) (aa R)) (
 (aq (some (true, 1)) gR U).wp K U (fun dx U =>
 (aM (some (true, 1)) hU dx U).wp K U (fun _ U =>
 bl (some (true, 1)) hU U fun lM =>
 aj R (.aQ [lM, (.int .i64 0)]) U) (aa R)) (aa R))) (aa R)) (aa R)) (aa R)) (aa R)) (aa R)) (aa R)) (aa R))) (aa R))) (aa R)) (aa R))) (aa R)) (aa R)) (aa R)
def Qs : Prop :=
 (bB (some false) a0).wp K U (fun v7 U =>
 (bB (some false) a1).wp K U (fun v9 U =>
 (ak .neq aE false v7 v9).wp K U (fun v10 U =>
 ao v10 (
 aj R (.bool false) U) (
 cL 3 [a0, a1, (.int .i64 0)] U fun lp v0 v1 v5 U =>
 (bB (some false) v0).wp K U (fun bF U =>
 (ak .lss aE false v5 bF).wp K U (fun bP U =>
 ao bP (
 (fun aF : St =>
 aC K (aG (some (43, 6)) none v0 v5) (fun cH =>
 aC K (aq (some (true, 6)) cH aF) (fun v20 =>
 aC K (aG (some (43, 6)) none v1 v5) (fun cX =>
 aC K (aq (some (true, 6)) cX aF) (fun v24 =>
 aC K (ak .neq (BT.mk false false false (some [.i, .s, .i, .i, .i, .i]) false) false v20 v24) (fun ek =>
 ao ek (
 aj R (.bool false) U) (
 (ak .add aE true v5 (.int .i64 1)).wp K U (fun cM U =>
 lp v0 v1 cM U) (aa R)))))))) U) (
 aj R (.bool true) U)) (aa R)) (aa R))) (aa R)) (aa R)) (aa R)
def Qt : Prop :=
 (bB (some false) a0).wp K U (fun v5 U =>
 (ak .gtr aE true v5 (.int .i64 1000)).wp K U (fun v6 U =>
 ao v6 (
 aj R (.bool false) U) (
 cL 2 [a0, (.int .i64 0)] U fun lp v0 v3 U =>
 (bB (some false) v0).wp K U (fun v9 U =>
 (ak .lss aE false v3 v9).wp K U (fun v10 U =>
 ao v10 (
 (aG (some (43, 6)) none v0 v3).wp K U (fun bA U =>
 (ag (some 1) bA).wp K U (fun cM U =>
 (aq aK cM U).wp K U (fun ca U =>
 (bB (some true) ca).wp K U (fun cg U =>
 (ak .gtr aE true cg (.int .i64 100)).wp K U (fun cH U =>
 ao cH (
 aj R (.bool false) U) (
 (ak .add aE true v3 (.int .i64 1)).wp K U (fun v12 U =>
 lp v0 v12 U) (aa R))) (aa R)) (aa R)) (aa R)) (aa R)) (aa R)) (
 aj R (.bool true) U)) (aa R)) (aa R))) (aa R)) (aa R)
def Qh : Prop :=
 (eH a0).wp K U (fun v2 U =>
 (aq (some (true, 1)) v2 U).wp K U (fun bF U =>
 af K 24 [bF] U (au (fun bP U =>
 (fo .not bP).wp K U (fun bA U =>
 ad K (ar bA false) (av.val a1) (fun ca =>
 ad K (ar bA false) (bB (some true) ca) (fun cg =>
 ad K (ar bA false) (ak .gtr aE true cg (.int .i64 100)) (fun cH =>
 (aR bA (.bool true) cH).wp K U (fun v20 U =>
 ao v20 (
 af K 17 [] U (au (fun v21 U =>
 aj R v21 U) (aa R))) (
 (aq (some (true, 1)) v2 U).wp K U (fun cX U =>
 af K 26 [cX] U (au (fun v24 U =>
 af K 37 [v24, a1] U (au (fun dK U =>
 (bg dK 0).wp K U (fun dx U =>
 (bg dK 1).wp K U (fun v28 U =>
 (aq (some (true, 1)) v2 U).wp K U (fun v30 U =>
 af K 39 [v30, a1] U (au (fun fF U =>
 (bg fF 0).wp K U (fun dL U =>
 (bg fF 1).wp K U (fun fG U =>
 (aq (some (true, 1)) v2 U).wp K U (fun eX U =>
 af K 26 [eX] U (au (fun v37 U =>
 af K 40 [v37] U (au (fun ga U =>
 (bg ga 0).wp K U (fun iJ U =>
 (bg ga 1).wp K U (fun v40 U =>
 (av.cr [.al]).wp K U (fun v9 U =>
 (aM (some (true, 1)) v9 iJ U).wp K U (fun _ U =>
 (aq (some (true, 1)) v2 U).wp K U (fun j5 U =>
 af K 41 [j5] U (au (fun eo U =>
 (bg eo 0).wp K U (fun oh U =>
 (bg eo 1).wp K U (fun jX U =>
 (av.cr [.al]).wp K U (fun v11 U =>
 (aM (some (true, 1)) v11 oh U).wp K U (fun _ U =>
 (ak .eql aE false v28 fG).wp K U (fun gV U =>
 ad K (ar gV true) (av.val dx) (fun lx =>
 ad K (ar gV true) (av.val dL) (fun v51 =>
 ad K (ar gV true) (ak .eql aE false lx v51) (fun j6 =>
 (aR gV j6 (.bool false)).wp K U (fun v53 U =>
 ad K (ar v53 true) (av.val v40) (fun iX =>
 ad K (ar v53 true) (av.val jX) (fun mQ =>
 ad K (ar v53 true) (ak .eql aE false iX mQ) (fun ly =>
 (aR v53 ly (.bool false)).wp K U (fun lz U =>
 ad K (ar lz true) (aq (some (true, 1)) v9 U) (fun qR =>
 ad K (ar lz true) (aq (some (true, 1)) v11 U) (fun rI =>
 ad K (ar lz true) (av.enter 22 [qR, rI]) (fun sZ =>
 (aR lz sZ (.bool false)).wp K U (fun ox U =>
 ad K (ar ox true) (av.enter 17 []) (fun s0 =>
 (aR ox s0 (.bool false)).wp K U (fun zu U =>
 aj R zu U) (aa R))) (aa R))))) (aa R))))) (aa R))))) (aa R)) (aa R)) (aa R)) (aa R)) (aa R)) (aa R))) (aa R)) (aa R)) (aa R)) (aa R)) (aa R)) (aa R))) (aa R))) (aa R)) (aa R)) (aa R)) (aa R))) (aa R)) (aa R)) (aa R)) (aa R))) (aa R))) (aa R))) (aa R))))) (aa R)) (aa R))) (aa R)) (aa R)
def Qi : Prop :=
 (eH a0).wp K U (fun v2 U =>
 (eH a1).wp K U (fun v3 U =>
 (ag (some 0) v2).wp K U (fun v5 U =>
 (aq aK v5 U).wp K U (fun v6 U =>
 (ag (some 0) v3).wp K U (fun v7 U =>
 (aq aK v7 U).wp K U (fun v8 U =>
 af K 47 [v6, v8] U (au (fun v9 U =>
 aj R v9 U) (aa R))) (aa R)) (aa R)) (aa R)) (aa R)) (aa R)) (aa R)
def Qj : Prop :=
 (eH a0).wp K U (fun v1 U =>
 (ag (some 0) v1).wp K U (fun v3 U =>
 (aq aK v3 U).wp K U (fun v4 U =>
 af K 49 [v4] U (au (fun v5 U =>
 aj R v5 U) (aa R))) (aa R)) (aa R)) (aa R)
def HG : Prop :=
 (eH a0).wp K U (fun v1 U =>
 (av.cr [.al]).wp K U (fun v2 U =>
 (ag (some 0) v1).wp K U (fun v3 U =>
 (aq aK v3 U).wp K U (fun v4 U =>
 (eZ (some (43, 6)) true .al v4 U).wp K U (fun v5 U =>
 (c7 (some [(0, 1)]) (some [.al]) none [(0, v5)]).wp K U (fun v6 U =>
 (aM (some (true, 1)) v2 v6 U).wp K U (fun _ U =>
 bl (some (true, 1)) v2 U fun r0 =>
 aj R r0 U) (aa R)) (aa R)) (aa R)) (aa R)) (aa R)) (aa R)) (aa R)
end
section
variable {a0 a1 a2 a3 a4 a5 a6 : AV} {R : cB -> St -> Prop} {U : St}
theorem OC (h : Qu a0 R U) : af K 61 [a0] U R := br Tryz.f61 W7 h
theorem OD (h : Qv a0 a1 R U) : af K 67 [a0, a1] U R := br Tryz.f67 W8 h
theorem OE (h : Qw a0 R U) : af K 68 [a0] U R := br Tryz.f68 W9 h
theorem OF (h : Qy a0 R U) : af K 69 [a0] U R := br Tryz.f69 Xa h
theorem OG (h : Qz a0 R U) : af K 70 [a0] U R := br Tryz.f70 Xb h
theorem OH (h : QA a0 R U) : af K 71 [a0] U R := br Tryz.f71 Xc h
theorem OI (h : QB a0 a1 R U) : af K 72 [a0, a1] U R := br Tryz.f72 Xd h
theorem OJ (h : QC a0 R U) : af K 73 [a0] U R := br Tryz.f73 Xe h
theorem OK (h : QD a0 R U) : af K 74 [a0] U R := br Tryz.f74 Xf h
theorem OL (h : QE a0 a1 R U) : af K 75 [a0, a1] U R := br Tryz.f75 Xg h
theorem OM (h : QF a0 a1 R U) : af K 76 [a0, a1] U R := br Tryz.f76 Xh h
theorem ON (h : QG a0 R U) : af K 77 [a0] U R := br Tryz.f77 Xi h
theorem OO (h : QH a0 a1 R U) : af K 81 [a0, a1] U R := br Tryz.f81 Xj h
theorem OP (h : QI a0 a1 a2 R U) : af K 82 [a0, a1, a2] U R := br Tryz.f82 Xk h
theorem OQ (h : QJ a0 a1 R U) : af K 83 [a0, a1] U R := br Tryz.f83 Xl h
theorem OR (h : QK a0 a1 R U) : af K 86 [a0, a1] U R := br Tryz.f86 Xm h
theorem OS (h : QL a0 a1 a2 R U) : af K 87 [a0, a1, a2] U R := br Tryz.f87 Xn h
theorem OT (h : QM a0 R U) : af K 88 [a0] U R := br Tryz.f88 Xo h
theorem OU (h : QN a0 R U) : af K 89 [a0] U R := br Tryz.f89 Xp h
theorem OV (h : Yl a0 a1 R U) : af K 99 [a0, a1] U R := br Tryz.f99 Xq h
theorem J6 (h : J5 a0 a1 R U) : af K 100 [a0, a1] U R := br Tryz.f100 Sy h
theorem J7 (h : VP a0 R U) : af K 101 [a0] U R := br Tryz.f101 Sz h
theorem J8 (h : VQ a0 a1 R U) : af K 102 [a0, a1] U R := br Tryz.f102 SA h
theorem Ka (h : J9 a0 a1 R U) : af K 103 [a0, a1] U R := br Tryz.f103 SB h
theorem Kb (h : VR a0 a1 R U) : af K 105 [a0, a1] U R := br Tryz.f105 SC h
theorem BA (h : DS a0 a1 a2 R U) : af K 106 [a0, a1, a2] U R := br Tryz.f106 SD h
theorem Kd (h : Kc a0 R U) : af K 109 [a0] U R := br Tryz.f109 SE h
theorem Kg (h : Kf a0 a1 R U) : af K 121 [a0, a1] U R := br Tryz.f121 SF h
theorem Ki (h : Kh a0 a1 a2 R U) : af K 122 [a0, a1, a2] U R := br Tryz.f122 SG h
theorem Kk (h : Kj a0 a1 a2 R U) : af K 131 [a0, a1, a2] U R := br Tryz.f131 SH h
theorem Km (h : Kl a0 a1 R U) : af K 132 [a0, a1] U R := br Tryz.f132 SI h
theorem Kq (h : Ko a0 a1 R U) : af K 133 [a0, a1] U R := br Tryz.f133 SJ h
theorem Kt (h : Ks a0 R U) : af K 134 [a0] U R := br Tryz.f134 SK h
theorem Kv (h : Ku a0 R U) : af K 135 [a0] U R := br Tryz.f135 SL h
theorem Kx (h : Kw a0 R U) : af K 136 [a0] U R := br Tryz.f136 SM h
theorem Kz (h : Ky a0 R U) : af K 137 [a0] U R := br Tryz.f137 SN h
theorem KB (h : KA a0 R U) : af K 138 [a0] U R := br Tryz.f138 SO h
theorem KE (h : KD a0 R U) : af K 139 [a0] U R := br Tryz.f139 SP h
theorem KG (h : KF a0 a1 R U) : af K 140 [a0, a1] U R := br Tryz.f140 SQ h
theorem KI (h : KH a0 R U) : af K 141 [a0] U R := br Tryz.f141 SR h
theorem KK (h : KJ a0 R U) : af K 142 [a0] U R := br Tryz.f142 SS h
theorem KM (h : KL a0 R U) : af K 143 [a0] U R := br Tryz.f143 SU h
theorem KO (h : KN a0 R U) : af K 144 [a0] U R := br Tryz.f144 SV h
theorem KS (h : KP a0 R U) : af K 145 [a0] U R := br Tryz.f145 SW h
theorem KU (h : KT a0 R U) : af K 146 [a0] U R := br Tryz.f146 SX h
theorem KW (h : KV a0 a1 a2 R U) : af K 147 [a0, a1, a2] U R := br Tryz.f147 SY h
theorem KX (h : VS a0 a1 R U) : af K 148 [a0, a1] U R := br Tryz.f148 SZ h
theorem KZ (h : KY a0 R U) : af K 149 [a0] U R := br Tryz.f149 S0 h
theorem K3 (h : K2 a0 R U) : af K 150 [a0] U R := br Tryz.f150 S5 h
theorem K4 (h : VT a0 a1 R U) : af K 151 [a0, a1] U R := br Tryz.f151 S6 h
theorem K6 (h : K5 a0 R U) : af K 152 [a0] U R := br Tryz.f152 S7 h
theorem Ot (h : Qk a0 R U) : af K 30 [a0] U R := br Tryz.f30 WY h
theorem Ou (h : Ql a0 R U) : af K 31 [a0] U R := br Tryz.f31 WZ h
theorem Ov (h : Qm a0 R U) : af K 33 [a0] U R := br Tryz.f33 W0 h
theorem Ow (h : Qn a0 a1 R U) : af K 37 [a0, a1] U R := br Tryz.f37 W1 h
theorem Ox (h : Qo a0 a1 R U) : af K 39 [a0, a1] U R := br Tryz.f39 W2 h
theorem Oy (h : Qp a0 R U) : af K 40 [a0] U R := br Tryz.f40 W3 h
theorem Oz (h : Qq a0 R U) : af K 41 [a0] U R := br Tryz.f41 W4 h
theorem OA (h : Qs a0 a1 R U) : af K 47 [a0, a1] U R := br Tryz.f47 W5 h
theorem OB (h : Qt a0 R U) : af K 49 [a0] U R := br Tryz.f49 W6 h
theorem On (h : Qh a0 a1 R U) : af K 11 [a0, a1] U R := br Tryz.f11 WU h
theorem Oo (h : Qi a0 a1 R U) : af K 22 [a0, a1] U R := br Tryz.f22 WV h
theorem Oq (h : Qj a0 R U) : af K 24 [a0] U R := br Tryz.f24 WW h
theorem DU (h : HG a0 R U) : af K 26 [a0] U R := br Tryz.f26 WX h
end
end Go.Rip
