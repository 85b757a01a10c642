/- Lemmas for the proof: no conditions. -/
import Derived.Test.YtnfpmiiopiinbaaGreatDoorRipZz
import Derived.Test.YtnfpmiiopiinbaaGreatDoorRipD
set_option linter.unusedVariables false
set_option linter.unusedSimpArgs false
set_option linter.loopingSimpArgs false
set_option maxRecDepth 100000
namespace Go.Rip
open Go.Proofs
def XB : An := ai (ai .z)
def XC : An := ai (aM (ai (ai (.cd (ai .z) .z))) (aM (ai (.cd (ai .z) .z)) (ai .z)))
def XD : An := ai (ai (aM (ai (.bk (.lp [0, 1, 5, 6] (aM (ai (.cd .z .z)) (aM (.bk dz) dz))))) (ai .z)))
def XE : An := ai (aM (aM (.rg [] [] (some ⟨[(true, 0), (true, 1), (true, 2), (true, 3), (true, 4), (true, 5), (true, 6), (true, 7), (true, 8), (true, 9), (true, 10), (true, 11), (true, 12), (true, 13), (true, 14), (true, 15), (true, 16), (true, 17), (true, 18), (true, 19), (true, 20), (true, 21), (true, 22), (true, 23), (true, 24), (true, 25), (true, 26)], [⟨32, 2, 0⟩, ⟨64, 32, 1⟩, ⟨128, 64, 2⟩, ⟨256, 128, 4⟩, ⟨512, 256, 8⟩, ⟨1024, 512, 16⟩, ⟨2048, 1026, 32⟩, ⟨4096, 3072, 96⟩, ⟨8192, 5120, 160⟩, ⟨16384, 9216, 288⟩, ⟨32768, 17408, 544⟩, ⟨65536, 33792, 1056⟩, ⟨131072, 66560, 2080⟩, ⟨262144, 132096, 4128⟩, ⟨524288, 262144, 8224⟩, ⟨1048576, 524290, 16384⟩, ⟨2097152, 1572864, 49152⟩, ⟨4194304, 2621440, 81920⟩, ⟨8388608, 4718592, 147456⟩, ⟨16777216, 8912896, 278528⟩, ⟨33554432, 17301504, 540672⟩, ⟨67108864, 524290, 16384⟩, ⟨134217728, 67633152, 2113536⟩, ⟨268435456, 134742016, 4210688⟩, ⟨536870912, 268959744, 8404992⟩, ⟨1073741824, 570949632, 17842176⟩, ⟨2147483648, 1074266112, 33570816⟩]⟩)) (.cd (ai .z) .z)) (ai (aM (ai (.bk (.lp [1, 3, 36, 37] (ai (aM (.cd .z .z) (aM (.bk (ai (ai (.cd (ai .z) .z)))) dz)))))) (ai .z))))
def XF : An := aM (.rg [1, 2] [] none) (aM (.rg [3] [] none) (aM (aM (.rg [7, 8, 9, 10] [] none) (.bk (.lp [1, 2, 3, 8, 9, 10] (aM (.rg [11] [] none) (aM (.cd .z .z) (aM (.bk (aM (.rg [4, 5, 12, 13, 14] [] none) (aM (.rg [3, 15, 16, 17] [] none) (aM (aM (.rg [18, 19, 20] [] none) (.cd (aM (.rg [2] [] none) .z) .z)) (.rg [3, 21, 22, 23, 24, 25, 26, 27] [] none))))) (.rg [10, 28] [] none))))))) (aM (.rg [6] [] none) (aM (aM (.rg [29, 30, 31] [] none) (.bk (.rf .z (.bk (.rg [33, 34] [] none))))) (aM (.rg [2, 35, 36] [] none) .z)))))
def XG : An := ai (aM (ai (.cd (ai .z) .z)) (aM (ai (.bk (.lp [0, 3] (aM (ai (.cd .z .z)) (aM (.bk (ai (.cd (ai .z) .z))) dz))))) (aM (ai (.bk (.lp [0, 4] (aM (ai (.cd .z .z)) (aM (.bk (ai (aM (.bk (.lp [0, 4, 5] (aM (ai (.cd .z .z)) (.bk dz)))) (ai (.cd (ai .z) .z))))) dz))))) (ai .z))))
def XH : An := ai (aM (aM (.rg [] [] (some ⟨[(true, 0), (true, 1), (true, 2), (true, 3), (true, 4), (true, 5), (true, 6), (true, 7), (true, 8), (true, 9), (true, 10), (true, 11), (true, 12), (true, 13), (true, 14), (true, 15), (true, 16), (true, 17)], [⟨8, 2, 0⟩, ⟨16, 8, 1⟩, ⟨32, 16, 2⟩, ⟨64, 2, 0⟩, ⟨128, 64, 8⟩, ⟨256, 128, 16⟩, ⟨512, 288, 36⟩, ⟨1024, 512, 68⟩, ⟨2048, 1026, 128⟩, ⟨4096, 3072, 384⟩, ⟨8192, 5120, 640⟩, ⟨16384, 9216, 1152⟩, ⟨32768, 16386, 2048⟩, ⟨65536, 49152, 6144⟩, ⟨131072, 81920, 10240⟩, ⟨262144, 147456, 18432⟩, ⟨524288, 279552, 34944⟩, ⟨1048576, 525312, 65664⟩]⟩)) (.cd (ai .z) .z)) (aM (aM (.rg [] [136, 137] none) (.cd (ai .z) .z)) (aM (.rg [] [137] none) .z)))
def XI : An := ai (ai (aM (ai (.bk (ai (.cd (ai .z) (.sq (some [1, 5, 8, 13]) (ai (.cd .z dz)) (.cd (aM (.rg [] [139] none) .z) (.sq (some [1, 5, 8, 24]) (ai (.cd .z dz)) (.cd (aM (.rg [] [140, 141, 142] none) .z) (ai (.cd (aM (.rg [] [143] none) .z) (ai (.cd (aM (.rg [] [144] none) .z) (ai (.cd (aM (.rg [] [144] none) .z) (.sq (some [1, 5, 8, 76]) (ai (.cd .z (ai (.cd .z (ai (.cd .z (ai (.cd .z (ai (.cd .z (ai (.cd .z (ai (.cd .z (ai (.cd .z (ai (.cd .z dz)))))))))))))))))) (.cd (aM (.rg [] [144] none) .z) (.sq (some [1, 5, 8, 93]) (ai (.cd .z (ai (.cd .z (ai (.cd .z (ai (.cd .z dz)))))))) (.cd (aM (.rg [] [144] none) .z) (ai (.cd (aM (.rg [] [145] none) .z) (ai (.cd (aM (.rg [] [140, 142] none) .z) (ai (.cd (aM (.rg [] [142] none) .z) (.sq (some [5, 154]) (ai (.cd .z (ai (.cd .z (ai (.cd .z (ai (.cd .z (ai (.cd .z (ai (.cd .z (ai (.cd .z (ai (.cd .z (ai (.cd .z (ai (.cd .z dz)))))))))))))))))))) (.cd (ai .z) .z)))))))))))))))))))))))))) (ai .z)))
def XJ : An := aM (.rg [2] [] none) (aM (.rg [3, 7, 8, 9] [] none) (aM (aM (.rg [4] [] none) (.bk (.lp [0, 3, 4] (aM (aM (.rg [10, 11, 12, 13] [] none) (.cd .z .z)) (aM (.bk (aM (.rg [5, 16, 17, 18] [] none) (aM (.rg [6] [] none) (.bk (.lp [0, 3, 4, 5, 6] (aM (aM (.rg [19, 20, 21, 22] [] none) (.cd .z .z)) (aM (.bk (.rg [25, 26, 27, 28, 29, 30, 31, 32, 33, 34, 35] [] (some ⟨[(true, 0), (true, 1), (true, 2), (true, 3), (true, 4), (true, 5), (true, 6), (true, 7), (true, 8), (true, 9), (true, 10), (false, 11)], [⟨33554432, 8, 0⟩, ⟨67108864, 32, 0⟩, ⟨134217728, 64, 0⟩, ⟨268435456, 201326592, 6⟩, ⟨536870912, 268435456, 8⟩, ⟨1073741824, 8, 0⟩, ⟨2147483648, 16, 0⟩, ⟨4294967296, 3221225472, 96⟩, ⟨8589934592, 4294967296, 128⟩, ⟨17179869184, 8589934592, 256⟩, ⟨34359738368, 570425344, 1023⟩, ⟨0, 51539607552, 2047⟩]⟩))) (.rg [6, 23, 24] [] none)))))))) (.rg [4, 14, 15] [] none)))))) (aM (.rg [2, 36] [] none) .z)))
def XK : An := ai (aM (ai (.cd (ai .z) .z)) (aM (ai (.bk (.lp [0, 9, 10] (ai (aM (.cd .z .z) (aM (.bk (ai (ai (.cd (ai .z) .z)))) dz)))))) (ai .z)))
def XL : An := ai (ai .z)
def XM : An := ai (ai .z)
def XN : An := ai (ai (aM (.bk (ai (.cd (ai .z) (ai (.cd (ai .z) (ai (.cd (ai .z) (ai (.cd (ai .z) (ai (.cd (ai .z) .z))))))))))) (ai .z)))
def XO : An := ai (aM (.rg [] [] (some ⟨[(true, 0), (true, 1), (true, 2), (true, 3), (true, 4), (true, 5), (true, 6), (true, 7), (true, 8), (false, 9), (false, 10)], [⟨64, 8, 0⟩, ⟨128, 4, 0⟩, ⟨256, 128, 2⟩, ⟨512, 256, 4⟩, ⟨1024, 8, 0⟩, ⟨2048, 1536, 24⟩, ⟨4096, 2048, 32⟩, ⟨8192, 4096, 64⟩, ⟨16384, 8256, 129⟩, ⟨32, 0, 0⟩, ⟨0, 16416, 1023⟩]⟩)) (ai .z))
def XP : An := ai (ai (aM (.bk (.lp [1, 2, 5] (aM (ai (.cd .z .z)) (.bk dz)))) (ai .z)))
def XQ : An := ai (ai (aM (.bk (ai (.cd (ai .z) (ai (.cd (ai .z) .z))))) (aM (ai (ai (.cd (ai (ai .z)) .z))) (ai .z))))
def XR : An := ai (aM (.rg [] [] (some ⟨[(true, 0), (true, 1), (true, 2), (true, 3), (true, 4), (true, 5), (true, 6), (true, 7), (true, 8), (true, 9)], [⟨1024, 2, 0⟩, ⟨2048, 8, 0⟩, ⟨4096, 2048, 2⟩, ⟨8192, 4096, 4⟩, ⟨16384, 2, 0⟩, ⟨32768, 24576, 24⟩, ⟨65536, 32768, 32⟩, ⟨131072, 65536, 64⟩, ⟨262144, 132096, 129⟩, ⟨64, 262144, 511⟩]⟩)) (aM (.rg [] [] (some ⟨[(true, 0), (true, 1), (true, 2), (true, 3), (true, 4), (true, 5), (true, 6), (true, 7), (true, 8), (true, 9), (true, 10), (true, 11), (false, 12), (true, 13)], [⟨524288, 8, 0⟩, ⟨1048576, 524288, 1⟩, ⟨2097152, 1048576, 2⟩, ⟨4194304, 2, 0⟩, ⟨8388608, 6291456, 12⟩, ⟨16777216, 4, 0⟩, ⟨33554432, 8, 0⟩, ⟨67108864, 33554432, 64⟩, ⟨134217728, 67108864, 128⟩, ⟨268435456, 64, 0⟩, ⟨536870912, 402653184, 768⟩, ⟨1073741824, 562036736, 1072⟩, ⟨2147483648, 1073741824, 2048⟩, ⟨128, 2147483648, 8191⟩]⟩)) (aM (ai (.bk (.lp [1, 2, 3, 4, 6, 7, 8] (aM (ai (.cd .z .z)) (.bk (ai (.rg [] [] (some ⟨[(true, 0), (true, 1), (true, 2), (true, 3), (true, 4), (true, 5), (true, 6), (true, 7), (true, 8), (true, 9), (true, 10), (true, 11), (true, 12), (true, 13), (false, 14)], [⟨274877906944, 128, 0⟩, ⟨549755813888, 256, 0⟩, ⟨1099511627776, 824633720832, 3⟩, ⟨2199023255552, 1099511627776, 4⟩, ⟨4398046511104, 2199023255552, 8⟩, ⟨8796093022208, 4, 0⟩, ⟨17592186044416, 8796093022208, 32⟩, ⟨35184372088832, 64, 0⟩, ⟨70368744177664, 2, 0⟩, ⟨140737488355328, 105553116266496, 384⟩, ⟨281474976710656, 158329674399744, 576⟩, ⟨562949953421312, 285873023221760, 1040⟩, ⟨1125899906842624, 824633720832, 4095⟩, ⟨2251799813685248, 1125899906842624, 8191⟩, ⟨0, 2814749767106560, 12287⟩]⟩)))))))) (ai (aM (.rg [] [] (some ⟨[(true, 0), (true, 1), (false, 2), (false, 3), (true, 4)], [⟨18014398509481984, 512, 0⟩, ⟨36028797018963968, 512, 0⟩, ⟨72057594037927936, 36028797018963968, 2⟩, ⟨0, 18014398509482000, 5⟩, ⟨32, 72057594037927936, 15⟩]⟩)) .z)))))
def XS : An := aM (.rg [2] [] none) (aM (.rg [3] [] none) (aM (aM (.rg [9, 10, 11] [] none) (.bk (.lp [0, 3, 9, 10, 11] (aM (.rg [12] [] none) (aM (.cd .z .z) (.sq (some [0, 3, 9, 10, 11]) (.bk (aM (.rg [5, 13, 14] [] none) (aM (.rg [3, 15, 16, 17, 18] [] none) (aM (.rg [19, 20] [] none) (.cd (.rg [21] [] none) .z))))) (.rg [11, 22] [] none))))))) (aM (.rg [6, 23, 24] [] none) (aM (aM (.rg [25, 26, 27] [] none) (.bk (.lp [6, 25, 26, 27] (aM (.rg [28] [] none) (aM (.cd .z .z) (aM (.bk (aM (.rg [8, 29, 30] [] none) (.rg [6, 31, 32, 33] [] none))) (.rg [27, 34] [] none))))))) (aM (.rg [2, 35] [] none) .z)))))
def XT : An := ai (ai .z)
def S0 : An := ai (aM (ai (.cd (ai .z) .z)) (ai (ai .z)))
def S5 : An := ai (ai .z)
def S6 : An := ai (.cd dz .z)
def S7 : An := ai (ai (ai .z))
def S8 : An := ai (ai .z)
def S9 : An := ai (.bk (.lp [0, 1, 2] (aM (ai (.cd .z .z)) (.bk dz))))
def Ta : An := ai (ai (ai (ai (.sq (some [3, 4]) (.bk (.lp [0, 3, 4] (aM (ai (.cd .z .z)) (.bk (aM (ai (aM (.rg [] [61] none) (.cd .z .z))) (ai dz)))))) (aM (ai (.cd (ai .z) .z)) (ai .z))))))
def Tb : An := ai (aM (.rg [] [178] none) .z)
def Tc : An := ai (ai .z)
def Td : An := ai (ai (ai (aM (aM (.rg [] [122, 208] none) (.cd (ai .z) .z)) (aM (aM (.rg [] [122] none) (.cd (ai .z) .z)) (ai (ai (aM (ai (.bk (.rf dz (.bk (aM (.rg [] [] (some ⟨[(true, 0), (true, 1), (true, 2), (true, 3), (true, 4), (true, 5), (true, 6), (true, 7), (true, 8), (false, 9), (false, 10)], [⟨19807040628566084398385987584, 1024, 0⟩, ⟨39614081257132168796771975168, 8, 0⟩, ⟨79228162514264337593543950336, 39614081257132168796771975168, 2⟩, ⟨158456325028528675187087900672, 79228162514264337593543950336, 4⟩, ⟨316912650057057350374175801344, 4096, 0⟩, ⟨633825300114114700748351602688, 475368975085586025561263702016, 24⟩, ⟨1267650600228229401496703205376, 633825300114114700748351602688, 32⟩, ⟨2535301200456458802993406410752, 1267650600228229401496703205376, 64⟩, ⟨5070602400912917605986812821504, 2535301200456458802993406410752, 128⟩, ⟨10141204801825835211973625643008, 5090409441541483690385198809088, 257⟩, ⟨0, 10141204801825835211973625644032, 1023⟩]⟩)) (aM (aM (.rg [] [] (some ⟨[(true, 0), (true, 1), (true, 2), (true, 3), (true, 4), (true, 5), (true, 6), (true, 7), (true, 8), (true, 9), (true, 10), (true, 11), (true, 12), (true, 13), (true, 14)], [⟨20282409603651670423947251286016, 16, 0⟩, ⟨40564819207303340847894502572032, 128, 0⟩, ⟨81129638414606681695789005144064, 40564819207303340847894502572032, 2⟩, ⟨162259276829213363391578010288128, 101412048018258352119736256430080, 5⟩, ⟨324518553658426726783156020576256, 4096, 0⟩, ⟨649037107316853453566312041152512, 486777830487640090174734030864384, 24⟩, ⟨1298074214633706907132624082305024, 8, 0⟩, ⟨2596148429267413814265248164610048, 1298074214633706907132624082305024, 64⟩, ⟨5192296858534827628530496329220096, 2596148429267413814265248164610048, 128⟩, ⟨10384593717069655257060992658440192, 4096, 0⟩, ⟨20769187434139310514121985316880384, 15576890575604482885591488987660288, 768⟩, ⟨41538374868278621028243970633760768, 20769187434139310514121985316880384, 1024⟩, ⟨83076749736557242056487941267521536, 41538374868278621028243970633760768, 2048⟩, ⟨166153499473114484112975882535043072, 83725786843874095510054253308674048, 4128⟩, ⟨332306998946228968225951765070086144, 166153499473114484112975882535043072, 8192⟩]⟩)) (.cd (ai .z) .z)) dz)))))) (ai .z))))))))
def Te : An := ai (ai (aM (ai (.cd (ai .z) .z)) (aM (ai (.bk (.lp [0, 1, 5, 6] (aM (ai (.cd .z .z)) (.sq (some [0, 1, 5, 6]) (.bk (ai (ai (.cd (ai dz) .z)))) dz))))) (ai (ai .z)))))
def Tf : An := ai (ai .z)
def Tg : An := ai (aM (ai (.bk (.sq (some [4]) (ai (.cd .z (ai (.cd .z (ai (.cd .z (ai (.cd .z (ai (.cd .z (ai (.cd .z (ai (.cd .z (ai (.cd .z (ai (.cd .z (ai (.cd .z (ai (.cd .z (ai (.cd .z dz)))))))))))))))))))))))) (.cd (ai .z) .z)))) (ai .z))
def Th : An := ai (ai .z)
def Ti : An := ai (ai .z)
def Tj : An := ai (ai .z)
def Tl : An := ai (aM (ai (.bk (.lp [0, 3] (aM (ai (.cd .z .z)) (aM (.bk (ai (.cd (ai .z) .z))) dz))))) (ai .z))
def Tm : An := ai (ai .z)
def Tn : An := ai (aM (ai (.bk (.lp [0, 1, 5] (aM (ai (.cd .z .z)) (aM (.bk (ai (.cd (ai .z) .z))) dz))))) (ai .z))
def To : An := ai (ai .z)
def Tp : An := ai (ai .z)
def Tq : An := ai (aM (ai (.bk (.lp [0, 3] (aM (ai (.cd .z .z)) (aM (.bk (ai (.cd (ai .z) .z))) dz))))) (ai .z))
def Tr : An := ai (aM (ai (.bk (.lp [0, 3] (aM (ai (.cd .z .z)) (aM (.bk (ai (.cd (ai .z) .z))) dz))))) (ai .z))
def Ts : An := ai (aM (ai (.bk (.lp [0, 3] (aM (ai (.cd .z .z)) (aM (.bk (ai (.cd (ai .z) .z))) dz))))) (ai .z))
def Tt : An := ai (ai .z)
def Tu : An := ai (.bk (.lp [0, 1, 2, 4] (aM (ai (.cd .z .z)) (.bk (ai (.bk (.sq (some [0, 1, 2, 4, 14, 24]) (ai (.cd .z dz)) (.cd dz (ai (.cd (ai (aM (ai (.cd .z .z)) dz)) (aM (ai (.cd .z .z)) dz)))))))))))
def Tv : An := ai (ai .z)
def Tw : An := ai (aM (.bk (.lp [0, 2] (aM (aM (.rg [] [151] none) (.cd .z .z)) (.bk dz)))) (ai .z))
def Tx : An := ai (aM (ai (.bk (.lp [0, 2, 6, 7] (ai (aM (.cd .z .z) (aM (.bk (ai (ai (.cd (ai .z) .z)))) dz)))))) (aM (aM (.rg [] [214] none) (.cd (ai .z) .z)) (ai .z)))
def Ty : An := ai (ai .z)
def Tz : An := ai (ai (aM (ai (.bk (.lp [0, 3, 6, 7] (ai (aM (.cd .z .z) (aM (.bk (ai (aM (ai (.cd (ai .z) .z)) dz))) dz)))))) (aM (.bk (ai (.cd (ai .z) (ai (.cd (ai .z) .z))))) (ai .z))))
def Xu : An := ai (aM (.bk (ai (.cd (ai .z) (ai (.cd (ai .z) (ai (.cd (ai .z) .z))))))) (ai .z))
def Xv : An := ai (ai (aM (ai (.cd (ai .z) .z)) (aM (ai (.cd (ai .z) .z)) (aM (ai (.bk (.lp [3, 4] (aM (ai (.cd .z .z)) (aM (.bk (ai (ai (aM (ai (.bk (.lp [3, 4, 5, 6, 7] (aM (ai (.cd .z .z)) (aM (.bk dz) dz))))) (aM (.rg [] [71, 72] none) (.cd (ai .z) .z)))))) dz))))) (ai (aM (ai (.bk (.lp [3, 8, 9] (aM (ai (.cd .z .z)) (aM (.bk (ai (.cd (ai .z) .z))) dz))))) (aM (ai (.cd (ai .z) .z)) (ai .z))))))))
def Xw : An := ai (aM (ai (ai (.cd (ai .z) .z))) (ai (ai (aM (ai (.bk (.rf (ai dz) (.bk (aM (ai (.cd .z .z)) (ai (.sq (some [2, 3, 4, 7, 9, 11, 12]) (ai (.cd dz .z)) (aM (ai (.cd (ai .z) .z)) (ai dz))))))))) (ai .z)))))
def Xx : An := ai (aM (ai (.cd (ai .z) .z)) (aM (ai (.bk (.lp [0, 1, 5] (aM (ai (.cd .z .z)) (aM (.bk (aM (.rg [] [] (some ⟨[(true, 0), (true, 1), (true, 2), (true, 3), (true, 4), (true, 5), (true, 6), (true, 7), (true, 8)], [⟨131072, 1, 0⟩, ⟨262144, 32, 0⟩, ⟨524288, 393216, 3⟩, ⟨1048576, 524288, 4⟩, ⟨2097152, 2, 0⟩, ⟨4194304, 32, 0⟩, ⟨8388608, 6291456, 48⟩, ⟨16777216, 8388608, 64⟩, ⟨33554432, 17825792, 136⟩]⟩)) (.cd (ai .z) .z))) dz))))) (ai .z)))
def Xy : An := ai (aM (ai (.cd (ai .z) .z)) (aM (ai (.bk (.lp [0, 3] (aM (ai (.cd .z .z)) (aM (.bk (ai (.cd (ai .z) .z))) dz))))) (ai .z)))
def Xz : An := ai (ai .z)
def XA : An := ai (aM (ai (ai (.cd (ai .z) .z))) (ai (ai (aM (ai (.bk (.lp [1, 2, 3, 6, 9, 10, 11] (aM (ai (.cd .z .z)) (aM (.bk (ai (.sq (some [1, 2, 3, 6, 9, 10, 11, 12]) (ai (.cd dz .z)) dz))) dz))))) (aM (.rg [] [] (some ⟨[(true, 0), (true, 1), (true, 2), (true, 4), (true, 5), (true, 6), (true, 7), (true, 8), (true, 9), (true, 10), (true, 11), (true, 12), (true, 13), (true, 14), (false, 3), (false, 15), (true, 16), (false, 17)], [⟨144115188075855872, 512, 0⟩, ⟨288230376151711744, 144115188075855872, 1⟩, ⟨576460752303423488, 4, 0⟩, ⟨1152921504606846976, 864691128455135232, 6⟩, ⟨2305843009213693952, 8, 0⟩, ⟨4611686018427387904, 2305843009213693952, 16⟩, ⟨9223372036854775808, 2, 0⟩, ⟨18446744073709551616, 8, 0⟩, ⟨36893488147419103232, 18446744073709551616, 128⟩, ⟨73786976294838206464, 2, 0⟩, ⟨147573952589676412928, 110680464442257309696, 768⟩, ⟨295147905179352825856, 147573952589676412928, 1024⟩, ⟨590295810358705651712, 295147905179352825856, 2048⟩, ⟨1180591620717411303424, 599519182395560427520, 4160⟩, ⟨2361183241434822606848, 1185203306735838691328, 8224⟩, ⟨4722366482869645213696, 2362336162939429453824, 16392⟩, ⟨9444732965739290427392, 512, 65535⟩, ⟨0, 14167099448608935641088, 131071⟩]⟩)) (aM (ai (ai (.cd (ai .z) .z))) (ai .z)))))))
def Xq : An := ai (aM (aM (.rg [] [49] none) (.cd (ai .z) .z)) (ai (ai (aM (.rg [] [17, 22] none) .z))))
def Xr : An := ai (ai .z)
def Xs : An := ai (ai .z)
def Xt : An := aM (.rg [1, 2] [] none) (aM (.rg [3, 4, 5, 6] [] none) .z)
section
variable (a0 a1 a2 a3 a4 a5 a6 : AV) (R : cD -> St -> Prop) (U : St)
def Q0 : Prop :=
 (fh a0).wp K U (fun v1 U =>
 (ao (some (true, 3)) v1 U).wp K U (fun v3 U =>
 (aO (some (9, 1)) (some [.str []]) 3 false [(0, (.str nO)), (1, (.str uZ)), (2, (.str nN))]).wp K U (fun v4 U =>
 af K 121 [v3, v4] U (ax (fun v5 U =>
 ak R v5 U) (aa R))) (aa R)) (aa R)) (aa R)
def Q1 : Prop :=
 (fh a0).wp K U (fun v2 U =>
 (ao (some (true, 1)) v2 U).wp K U (fun v6 U =>
 af K 31 [v6] U (ax (fun v7 U =>
 (aj .neq aD true v7 (.int .i64 0)).wp K U (fun v9 U =>
 aq v9 (
 ak R v7 U) (
 (aj .lss aD true a1 (.int .i64 0)).wp K U (fun v12 U =>
 ad K (ar v12 false) (au.val a1) (fun bS =>
 ad K (ar v12 false) (ag (some 0) v2) (fun bH =>
 ad K (ar v12 false) (ao aK bH U) (fun cG =>
 ad K (ar v12 false) (bz (some false) cG) (fun cA =>
 ad K (ar v12 false) (aj .geq aD false bS cA) (fun bZ =>
 (aQ v12 (.bool true) bZ).wp K U (fun cH U =>
 aq cH (
 ak R (.int .i64 3) U) (
 ak R (.int .i64 0) U)) (aa R))))))) (aa R))) (aa R)) (aa R))) (aa R)) (aa R)
def Q2 : Prop :=
 (aj .add aD true a1 (.int .i64 1)).wp K U (fun v8 U =>
 cK 4 [a0, a1, .al, v8] U fun lp v0 v1 v5 v6 U =>
 (aF (some (43, 6)) none v0 v1).wp K U (fun bI U =>
 (ag (some 5) bI).wp K U (fun bS U =>
 (ao aK bS U).wp K U (fun bH U =>
 (aj .add aD false v1 bH).wp K U (fun cG U =>
 (aj .lss aD false v6 cG).wp K U (fun cA U =>
 aq cA (
 (aO (some (3, 1)) (some [.int .i64 0]) 1 false [(0, v6)]).wp K U (fun di U =>
 (dM (some (3, 1)) false v5 di U).wp K U (fun v28 U =>
 (aF (some (43, 6)) none v0 v6).wp K U (fun v21 U =>
 (ag (some 5) v21).wp K U (fun cm U =>
 (ao aK cm U).wp K U (fun du U =>
 (aj .add aD false v6 du).wp K U (fun v24 U =>
 lp v0 v1 v28 v24 U) (aa R)) (aa R)) (aa R)) (aa R)) (aa R)) (aa R)) (
 ak R v5 U)) (aa R)) (aa R)) (aa R)) (aa R)) (aa R)) (aa R)
def Q3 : Prop :=
 (fh a0).wp K U (fun v1 U =>
 (fun aG : St =>
 aw K (ag (some 0) v1) (fun v5 =>
 aw K (ag (some 0) v5) (fun v6 =>
 aw K (ao aK v6 aG) (fun v7 =>
 aw K (bz (some false) v7) (fun v8 =>
 aw K (aj .eql aD true v8 (.int .i64 0)) (fun v9 =>
 ad K (ar v9 false) (ag (some 0) v1) (fun v11 =>
 ad K (ar v9 false) (ag (some 0) v11) (fun v12 =>
 ad K (ar v9 false) (ao aK v12 aG) (fun bI =>
 ad K (ar v9 false) (aF (some (43, 6)) none bI (.int .i64 0)) (fun bS =>
 ad K (ar v9 false) (ag (some 0) bS) (fun bH =>
 ad K (ar v9 false) (ao aK bH aG) (fun cG =>
 ad K (ar v9 false) (aj .neq aD true cG (.int .u8 1)) (fun cA =>
 aw K (aQ v9 (.bool true) cA) (fun bZ =>
 ad K (ar bZ false) (ag (some 0) v1) (fun v20 =>
 ad K (ar bZ false) (ag (some 0) v20) (fun v21 =>
 ad K (ar bZ false) (ao aK v21 aG) (fun cm =>
 ad K (ar bZ false) (aF (some (43, 6)) none cm (.int .i64 0)) (fun du =>
 ad K (ar bZ false) (ag (some 5) du) (fun v24 =>
 ad K (ar bZ false) (ao aK v24 aG) (fun dO =>
 ad K (ar bZ false) (ag (some 0) v1) (fun dE =>
 ad K (ar bZ false) (ag (some 0) dE) (fun di =>
 ad K (ar bZ false) (ao aK di aG) (fun v28 =>
 ad K (ar bZ false) (bz (some false) v28) (fun cC =>
 ad K (ar bZ false) (aj .neq aD false dO cC) (fun v30 =>
 aw K (aQ bZ (.bool true) v30) (fun v31 =>
 aq v31 (
 ak R (.bool false) U) (
 af K 130 [] U (ax (fun fG U =>
 (ag (some 0) v1).wp K U (fun dP U =>
 (ag (some 0) dP).wp K U (fun eI U =>
 (ao aK eI U).wp K U (fun er U =>
 (bz (some false) er).wp K U (fun fq U =>
 cK 4 [v1, fG, fq, (.int .i64 0)] U fun lp eN v3 pz v37 U =>
 (aj .lss aD false v37 pz).wp K U (fun eY U =>
 aq eY (
 (ao (some (true, 1)) eN U).wp K U (fun v40 U =>
 af K 131 [v40, v37, v3] U (ax (fun dY U =>
 (fF .not dY).wp K U (fun oM U =>
 aq oM (
 ak R (.bool false) U) (
 (aj .add aD true v37 (.int .i64 1)).wp K U (fun jf U =>
 lp eN v3 pz jf U) (aa R))) (aa R)) (aa R))) (aa R)) (
 ak R (.bool true) U)) (aa R)) (aa R)) (aa R)) (aa R)) (aa R)) (aa R))))))))))))))))))))))))))))) U) (aa R)
def Q4 : Prop :=
 (fh a0).wp K U (fun v1 U =>
 (ag (some 0) v1).wp K U (fun v7 U =>
 (ao aK v7 U).wp K U (fun v8 U =>
 (bz (some false) v8).wp K U (fun v9 U =>
 cK 6 [v1, (.bool false), .al, v8, v9, (.int .i64 0)] U fun lp eN v2 v3 fl jh v10 U =>
 (aj .lss aD false v10 jh).wp K U (fun v11 U =>
 aq v11 (
 (aF (some (43, 6)) none fl v10).wp K U (fun bI U =>
 (ao (some (true, 6)) bI U).wp K U (fun bS U =>
 (au.cq [.int .i64 0]).wp K U (fun v4 U =>
 (au.cq [.int .u8 0, .str [], .int .i64 0, .int .i64 0, .int .i64 0, .int .i64 0]).wp K U (fun v5 U =>
 (aL aK v4 v10 U).wp K U (fun _ U =>
 (aL (some (true, 6)) v5 bS U).wp K U (fun _ U =>
 af K 132 [v3, (.func (.func 133) [] [v4])] U (ax (fun cA U =>
 (bz (some false) cA).wp K U (fun cH U =>
 (aj .gtr aD true cH (.int .i64 60)).wp K U (fun v20 U =>
 aq v20 (
 ak R (.bool true) U) (
 (ao aK v4 U).wp K U (fun cm U =>
 (ag (some 5) v5).wp K U (fun du U =>
 (ao aK du U).wp K U (fun v24 U =>
 (aj .add aD false cm v24).wp K U (fun dO U =>
 (aO (some (3, 1)) (some [.int .i64 0]) 1 true [(0, dO)]).wp K U (fun dE U =>
 (dM (some (3, 1)) true cA dE U).wp K U (fun di U =>
 (aj .add aD true v10 (.int .i64 1)).wp K U (fun v28 U =>
 lp eN v2 di fl jh v28 U) (aa R)) (aa R)) (aa R)) (aa R)) (aa R)) (aa R)) (aa R))) (aa R)) (aa R)) (aa R))) (aa R)) (aa R)) (aa R)) (aa R)) (aa R)) (aa R)) (
 (au.cq [.int .i64 0]).wp K U (fun v6 U =>
 (aL aK v6 (.int .i64 0) U).wp K U (fun _ U =>
 (ao (some (true, 1)) eN U).wp K U (fun cC U =>
 (dj (some [(0, 1)]) (some [.al]) none [(0, cC)]).wp K U (fun v30 U =>
 af K 81 [v30, (.int .i64 0)] U (ax (fun v31 U =>
 tE K 1 v31 U (fun fG q U =>
 q.Gw (fun U =>
 (ao aK v6 U).wp K U (fun dP U =>
 (aj .add aD true dP (.int .i64 1)).wp K U (fun eI U =>
 (aL aK v6 eI U).wp K U (fun _ U =>
 q.n U) (fun _ _ => False)) (fun _ _ => False)) (fun _ _ => False)) U) (fun U =>
 (ao aK v6 U).wp K U (fun er U =>
 (aj .gtr aD true er (.int .i64 24)).wp K U (fun fq U =>
 ak R fq U) (aa R)) (aa R)) (fun i U =>
 I7 (Nat.beq i 2) (
 (ao aK v6 U).wp K U (fun Ai U =>
 (aj .gtr aD true Ai (.int .i64 24)).wp K U (fun pz U =>
 ak R pz U) (aa R)) (aa R)) (
 False)) (fun U =>
 ak R v2 U) (fun x U => (aa R) x U)) (aa R))) (aa R)) (aa R)) (aa R)) (aa R))) (aa R)) (aa R)) (aa R)) (aa R)) (aa R)
def Q5 : Prop :=
 (bz (some false) a0).wp K U (fun v7 U =>
 (aj .eql aD true v7 (.int .i64 0)).wp K U (fun v8 U =>
 ad K (ar v8 false) (au.val a0) (fun v10 =>
 ad K (ar v8 false) (aF (some (43, 6)) none v10 (.int .i64 0)) (fun v11 =>
 ad K (ar v8 false) (ag (some 5) v11) (fun v12 =>
 ad K (ar v8 false) (ao aK v12 U) (fun bI =>
 ad K (ar v8 false) (au.val a0) (fun bS =>
 ad K (ar v8 false) (bz (some false) bS) (fun bH =>
 ad K (ar v8 false) (aj .neq aD false bI bH) (fun cG =>
 (aQ v8 (.bool true) cG).wp K U (fun cA U =>
 aq cA (
 ak R (.bool false) U) (
 cK 2 [a0, (.int .i64 0)] U fun lp v0 v3 U =>
 (bz (some false) v0).wp K U (fun v20 U =>
 (aj .lss aD false v3 v20).wp K U (fun v21 U =>
 aq v21 (
 (aF (some (43, 6)) none v0 v3).wp K U (fun dE U =>
 (ag (some 5) dE).wp K U (fun di U =>
 (ao aK di U).wp K U (fun v28 U =>
 (aj .lss aD true v28 (.int .i64 1)).wp K U (fun cC U =>
 ad K (ar cC false) (au.val v0) (fun v31 =>
 ad K (ar cC false) (au.val v3) (fun fG =>
 ad K (ar cC false) (aF (some (43, 6)) none v31 fG) (fun dP =>
 ad K (ar cC false) (ag (some 5) dP) (fun eI =>
 ad K (ar cC false) (ao aK eI U) (fun er =>
 ad K (ar cC false) (au.val v0) (fun fq =>
 ad K (ar cC false) (bz (some false) fq) (fun v37 =>
 ad K (ar cC false) (au.val v3) (fun eY =>
 ad K (ar cC false) (aj .sub aD false v37 eY) (fun je =>
 ad K (ar cC false) (aj .gtr aD false er je) (fun v40 =>
 (aQ cC (.bool true) v40).wp K U (fun gQ U =>
 aq gQ (
 ak R (.bool false) U) (
 (aj .add aD true v3 (.int .i64 1)).wp K U (fun du U =>
 lp v0 du U) (aa R))) (aa R)))))))))))) (aa R)) (aa R)) (aa R)) (aa R)) (
 cK 2 [v0, (.int .i64 0)] U fun o4 kh v4 U =>
 (bz (some false) kh).wp K U (fun oM U =>
 (aj .lss aD false v4 oM).wp K U (fun jf U =>
 aq jf (
 (aj .add aD true v4 (.int .i64 1)).wp K U (fun v49 U =>
 cK 3 [kh, v4, v49] U fun D6 sS dN v5 U =>
 (aF (some (43, 6)) none sS dN).wp K U (fun kj U =>
 (ag (some 5) kj).wp K U (fun iI U =>
 (ao aK iI U).wp K U (fun l9 U =>
 (aj .add aD false dN l9).wp K U (fun ky U =>
 (aj .lss aD false v5 ky).wp K U (fun ni U =>
 aq ni (
 (aF (some (43, 6)) none sS v5).wp K U (fun tK U =>
 (ag (some 5) tK).wp K U (fun rm U =>
 (ao aK rm U).wp K U (fun mb U =>
 (aj .add aD false v5 mb).wp K U (fun tL U =>
 D6 sS dN tL U) (aa R)) (aa R)) (aa R)) (aa R)) (
 (aF (some (43, 6)) none sS dN).wp K U (fun v70 U =>
 (ag (some 5) v70).wp K U (fun rn U =>
 (ao aK rn U).wp K U (fun v72 U =>
 (aj .add aD false dN v72).wp K U (fun tM U =>
 (aj .neq aD false v5 tM).wp K U (fun rp U =>
 aq rp (
 ak R (.bool false) U) (
 (aj .add aD true dN (.int .i64 1)).wp K U (fun ki U =>
 o4 sS ki U) (aa R))) (aa R)) (aa R)) (aa R)) (aa R)) (aa R))) (aa R)) (aa R)) (aa R)) (aa R)) (aa R)) (aa R)) (
 ak R (.bool true) U)) (aa R)) (aa R))) (aa R)) (aa R))) (aa R))))))))) (aa R)) (aa R)
def Q6 : Prop :=
 (fh a0).wp K U (fun v1 U =>
 (fun aG : St =>
 aw K (ag (some 0) v1) (fun v3 =>
 aw K (ao aK v3 aG) (fun v4 =>
 aw K (au.enter 134 [v4]) (fun v5 =>
 aw K (ag (some 1) v1) (fun v6 =>
 aw K (ao aK v6 aG) (fun v7 =>
 aw K (aj .neq aD true v7 (.str w_)) (fun v8 =>
 aw K (aj .neq (BT.mk true false false none false) false v5 v8) (fun v9 =>
 ad K (ar v9 false) (ag (some 1) v1) (fun v11 =>
 ad K (ar v9 false) (ao aK v11 aG) (fun v12 =>
 ad K (ar v9 false) (aj .neq aD true v12 (.str w_)) (fun bI =>
 ad K (ar v9 false) (au.val bI) (fun bS =>
 ad K (ar bS true) (ag (some 1) v1) (fun bH =>
 ad K (ar bS true) (ao aK bH aG) (fun cG =>
 ad K (ar bS true) (au.enter 135 [cG]) (fun cA =>
 ad K (ar bS true) (fF .not cA) (fun bZ =>
 ad K (ar v9 false) (aQ bS bZ (.bool false)) (fun cH =>
 aw K (aQ v9 (.bool true) cH) (fun v20 =>
 aq v20 (
 ak R (.bool false) U) (
 (ag (some 0) v1).wp K U (fun v21 U =>
 (ao aK v21 U).wp K U (fun cm U =>
 af K 136 [cm] U (ax (fun du U =>
 ad K (ar du true) (ag (some 2) v1) (fun dO =>
 ad K (ar du true) (ao aK dO U) (fun dE =>
 ad K (ar du true) (au.enter 137 [dE]) (fun di =>
 ad K (ar du true) (fF .not di) (fun v28 =>
 (aQ du v28 (.bool false)).wp K U (fun cC U =>
 ad K (ar cC false) (ag (some 0) v1) (fun v31 =>
 ad K (ar cC false) (ao aK v31 U) (fun fG =>
 ad K (ar cC false) (au.enter 136 [fG]) (fun dP =>
 ad K (ar cC false) (fF .not dP) (fun eI =>
 ad K (ar cC false) (au.val eI) (fun er =>
 ad K (ar er true) (ag (some 2) v1) (fun fq =>
 ad K (ar er true) (ao aK fq U) (fun v37 =>
 ad K (ar er true) (aj .neq aD true v37 (.int .i64 0)) (fun eY =>
 ad K (ar cC false) (aQ er eY (.bool false)) (fun je =>
 (aQ cC (.bool true) je).wp K U (fun v40 U =>
 aq v40 (
 ak R (.bool false) U) (
 (ag (some 0) v1).wp K U (fun gQ U =>
 (ao aK gQ U).wp K U (fun iH U =>
 (aj .eql aD true iH (.int .u8 12)).wp K U (fun dY U =>
 ad K (ar dY true) (ag (some 3) v1) (fun jf =>
 ad K (ar dY true) (ao aK jf U) (fun v46 =>
 ad K (ar dY true) (au.enter 137 [v46]) (fun ki =>
 (aQ dY ki (.bool false)).wp K U (fun jg U =>
 ad K (ar jg false) (ag (some 0) v1) (fun ku =>
 ad K (ar jg false) (ao aK ku U) (fun v51 =>
 ad K (ar jg false) (aj .neq aD true v51 (.int .u8 12)) (fun kx =>
 ad K (ar jg false) (au.val kx) (fun v53 =>
 ad K (ar v53 true) (ag (some 3) v1) (fun kj =>
 ad K (ar v53 true) (ao aK kj U) (fun iI =>
 ad K (ar v53 true) (aj .eql aD true iI (.int .i64 0)) (fun l9 =>
 ad K (ar jg false) (aQ v53 l9 (.bool false)) (fun ky =>
 (aQ jg (.bool true) ky).wp K U (fun ni U =>
 ak R ni U) (aa R)))))))))) (aa R))))) (aa R)) (aa R)) (aa R))) (aa R))))))))))) (aa R)))))) (aa R))) (aa R)) (aa R)))))))))))))))))))) U) (aa R)
def Q7 : Prop :=
 (bz (some false) a1).wp K U (fun v7 U =>
 (aj .eql aD true a0 (.int .u8 1)).wp K U (fun v10 U =>
 aq v10 (
 af K 138 [a1] U (ax (fun v12 U =>
 ak R v12 U) (aa R))) (
 gG 4 (fun v1 v5 v8 bI U =>
 aq bI (
 (aj .eql aD true v5 (.int .i64 1)).wp K U (fun cA U =>
 ad K (ar cA true) (au.val v1) (fun cH =>
 ad K (ar cA true) (aF (some (5, 1)) none cH (.int .i64 0)) (fun v20 =>
 ad K (ar cA true) (ao aK v20 U) (fun v21 =>
 ad K (ar cA true) (au.enter 139 [v21]) (fun cm =>
 (aQ cA cm (.bool false)).wp K U (fun du U =>
 ak R du U) (aa R)))))) (aa R)) (
 gG 4 (fun eN jO fl v24 U =>
 aq v24 (
 (aj .geq aD true jO (.int .i64 2)).wp K U (fun v28 U =>
 ad K (ar v28 true) (au.val eN) (fun v30 =>
 ad K (ar v28 true) (au.val jO) (fun v31 =>
 ad K (ar v28 true) (aj .sub aD true v31 (.int .i64 2)) (fun fG =>
 ad K (ar v28 true) (dx false (some (5, 1)) v30 none (some fG)) (fun dP =>
 ad K (ar v28 true) (au.enter 140 [dP, (.int .u8 5)]) (fun eI =>
 (aQ v28 eI (.bool false)).wp K U (fun er U =>
 ad K (ar er true) (au.val eN) (fun v37 =>
 ad K (ar er true) (au.val jO) (fun eY =>
 ad K (ar er true) (aj .sub aD true eY (.int .i64 2)) (fun je =>
 ad K (ar er true) (aF (some (5, 1)) none v37 je) (fun v40 =>
 ad K (ar er true) (ao aK v40 U) (fun gQ =>
 ad K (ar er true) (au.enter 141 [gQ]) (fun iH =>
 (aQ er iH (.bool false)).wp K U (fun dY U =>
 ad K (ar dY true) (au.val eN) (fun jf =>
 ad K (ar dY true) (au.val jO) (fun v46 =>
 ad K (ar dY true) (aj .sub aD true v46 (.int .i64 1)) (fun ki =>
 ad K (ar dY true) (aF (some (5, 1)) none jf ki) (fun jg =>
 ad K (ar dY true) (ao aK jg U) (fun v49 =>
 ad K (ar dY true) (au.enter 142 [v49]) (fun ku =>
 (aQ dY ku (.bool false)).wp K U (fun v51 U =>
 ak R v51 U) (aa R)))))))) (aa R)))))))) (aa R))))))) (aa R)) (
 (aj .eql aD true fl (.int .u8 8)).wp K U (fun v53 U =>
 aq v53 (
 (aj .geq aD true jO (.int .i64 2)).wp K U (fun iI U =>
 ad K (ar iI true) (au.val eN) (fun ky =>
 ad K (ar iI true) (au.enter 143 [ky]) (fun ni =>
 (aQ iI ni (.bool false)).wp K U (fun v59 U =>
 ak R v59 U) (aa R)))) (aa R)) (
 (aj .eql aD true fl (.int .u8 9)).wp K U (fun p8 U =>
 aq p8 (
 (aj .geq aD true jO (.int .i64 2)).wp K U (fun rm U =>
 ad K (ar rm true) (au.val eN) (fun tL =>
 ad K (ar rm true) (au.enter 144 [tL]) (fun EP =>
 (aQ rm EP (.bool false)).wp K U (fun oV U =>
 ak R oV U) (aa R)))) (aa R)) (
 (aj .eql aD true fl (.int .u8 10)).wp K U (fun Aj U =>
 aq Aj (
 (aj .eql aD true jO (.int .i64 3)).wp K U (fun rn U =>
 ad K (ar rn true) (au.val eN) (fun tM =>
 ad K (ar rn true) (au.enter 144 [tM]) (fun rp =>
 (aQ rn rp (.bool false)).wp K U (fun v75 U =>
 ak R v75 U) (aa R)))) (aa R)) (
 gG 4 (fun uY Bg sU v76 U =>
 aq v76 (
 (aj .eql aD true Bg (.int .i64 2)).wp K U (fun Nz U =>
 ad K (ar Nz true) (au.val uY) (fun EU =>
 ad K (ar Nz true) (au.enter 144 [EU]) (fun v91 =>
 (aQ Nz v91 (.bool false)).wp K U (fun Xa U =>
 ak R Xa U) (aa R)))) (aa R)) (
 gG 4 (fun sT ma oO v93 U =>
 aq v93 (
 (aj .eql aD true ma (.int .i64 1)).wp K U (fun Bf U =>
 ad K (ar Bf true) (au.val sT) (fun PL =>
 ad K (ar Bf true) (au.enter 144 [PL]) (fun PM =>
 (aQ Bf PM (.bool false)).wp K U (fun PN U =>
 ak R PN U) (aa R)))) (aa R)) (
 (aj .eql aD true oO (.int .u8 34)).wp K U (fun PO U =>
 aq PO (
 (aj .geq aD true ma (.int .i64 1)).wp K U (fun PQ U =>
 ad K (ar PQ true) (au.val sT) (fun PS =>
 ad K (ar PQ true) (au.enter 145 [PS]) (fun PT =>
 (aQ PQ PT (.bool false)).wp K U (fun PU U =>
 ak R PU U) (aa R)))) (aa R)) (
 (aj .eql aD true oO (.int .u8 35)).wp K U (fun PV U =>
 aq PV (
 (aj .geq aD true ma (.int .i64 2)).wp K U (fun wO U =>
 ad K (ar wO true) (au.val sT) (fun PW =>
 ad K (ar wO true) (au.val ma) (fun abk =>
 ad K (ar wO true) (aj .sub aD true abk (.int .i64 1)) (fun PX =>
 ad K (ar wO true) (dx false (some (5, 1)) PW none (some PX)) (fun PY =>
 ad K (ar wO true) (au.enter 140 [PY, (.int .u8 37)]) (fun PZ =>
 (aQ wO PZ (.bool false)).wp K U (fun yT U =>
 ad K (ar yT true) (au.val sT) (fun P0 =>
 ad K (ar yT true) (au.val ma) (fun P1 =>
 ad K (ar yT true) (aj .sub aD true P1 (.int .i64 1)) (fun v127 =>
 ad K (ar yT true) (aF (some (5, 1)) none P0 v127) (fun P2 =>
 ad K (ar yT true) (ao aK P2 U) (fun P3 =>
 ad K (ar yT true) (au.enter 142 [P3]) (fun v130 =>
 (aQ yT v130 (.bool false)).wp K U (fun v131 U =>
 ak R v131 U) (aa R)))))))) (aa R))))))) (aa R)) (
 (aj .eql aD true oO (.int .u8 36)).wp K U (fun wP U =>
 aq wP (
 (aj .eql aD true ma (.int .i64 3)).wp K U (fun yU U =>
 ad K (ar yU true) (au.val sT) (fun P4 =>
 ad K (ar yU true) (aF (some (5, 1)) none P4 (.int .i64 0)) (fun v138 =>
 ad K (ar yU true) (ao aK v138 U) (fun v139 =>
 ad K (ar yU true) (au.enter 142 [v139]) (fun abn =>
 (aQ yU abn (.bool false)).wp K U (fun v141 U =>
 ad K (ar v141 true) (au.val sT) (fun v143 =>
 ad K (ar v141 true) (aF (some (5, 1)) none v143 (.int .i64 1)) (fun abo =>
 ad K (ar v141 true) (ao aK abo U) (fun v145 =>
 ad K (ar v141 true) (aj .eql aD true v145 (.int .u8 37)) (fun v146 =>
 (aQ v141 v146 (.bool false)).wp K U (fun EN U =>
 ad K (ar EN true) (au.val sT) (fun abp =>
 ad K (ar EN true) (aF (some (5, 1)) none abp (.int .i64 2)) (fun abq =>
 ad K (ar EN true) (ao aK abq U) (fun abr =>
 ad K (ar EN true) (au.enter 142 [abr]) (fun v152 =>
 (aQ EN v152 (.bool false)).wp K U (fun abt U =>
 ak R abt U) (aa R)))))) (aa R)))))) (aa R)))))) (aa R)) (
 gG 2 (fun abv v154 U =>
 aq v154 (
 (aj .eql aD true abv (.int .i64 0)).wp K U (fun v167 U =>
 ak R v167 U) (aa R)) (
 ak R (.bool false) U)) fun wk =>
 (aj .eql aD true oO (.int .u8 6)).wp K U (fun W3 U =>
 aq W3 (
 wk ma W3 U) (
 (aj .eql aD true oO (.int .u8 7)).wp K U (fun W4 U =>
 aq W4 (
 wk ma W4 U) (
 (aj .eql aD true oO (.int .u8 26)).wp K U (fun v157 U =>
 aq v157 (
 wk ma v157 U) (
 (aj .eql aD true oO (.int .u8 27)).wp K U (fun W5 U =>
 aq W5 (
 wk ma W5 U) (
 (aj .eql aD true oO (.int .u8 28)).wp K U (fun v159 U =>
 aq v159 (
 wk ma v159 U) (
 (aj .eql aD true oO (.int .u8 29)).wp K U (fun v160 U =>
 aq v160 (
 wk ma v160 U) (
 (aj .eql aD true oO (.int .u8 30)).wp K U (fun W6 U =>
 aq W6 (
 wk ma W6 U) (
 (aj .eql aD true oO (.int .u8 31)).wp K U (fun v162 U =>
 aq v162 (
 wk ma v162 U) (
 (aj .eql aD true oO (.int .u8 32)).wp K U (fun W7 U =>
 aq W7 (
 wk ma W7 U) (
 (aj .eql aD true oO (.int .u8 33)).wp K U (fun v164 U =>
 aq v164 (
 wk ma v164 U) (
 (aj .eql aD true oO (.int .u8 37)).wp K U (fun abu U =>
 wk ma abu U) (aa R))) (aa R))) (aa R))) (aa R))) (aa R))) (aa R))) (aa R))) (aa R))) (aa R))) (aa R))) (aa R))) (aa R))) (aa R))) (aa R))) fun JV =>
 (aj .eql aD true sU (.int .u8 12)).wp K U (fun GW U =>
 aq GW (
 JV uY Bg sU GW U) (
 (aj .eql aD true sU (.int .u8 14)).wp K U (fun GX U =>
 aq GX (
 JV uY Bg sU GX U) (
 (aj .eql aD true sU (.int .u8 16)).wp K U (fun NA U =>
 aq NA (
 JV uY Bg sU NA U) (
 (aj .eql aD true sU (.int .u8 19)).wp K U (fun RC U =>
 aq RC (
 JV uY Bg sU RC U) (
 (aj .eql aD true sU (.int .u8 25)).wp K U (fun v98 U =>
 JV uY Bg sU v98 U) (aa R))) (aa R))) (aa R))) (aa R))) (aa R))) fun xY =>
 (aj .eql aD true fl (.int .u8 11)).wp K U (fun rq U =>
 aq rq (
 xY eN jO fl rq U) (
 (aj .eql aD true fl (.int .u8 13)).wp K U (fun Ak U =>
 aq Ak (
 xY eN jO fl Ak U) (
 (aj .eql aD true fl (.int .u8 15)).wp K U (fun RB U =>
 aq RB (
 xY eN jO fl RB U) (
 (aj .eql aD true fl (.int .u8 17)).wp K U (fun v80 U =>
 aq v80 (
 xY eN jO fl v80 U) (
 (aj .eql aD true fl (.int .u8 18)).wp K U (fun Nx U =>
 aq Nx (
 xY eN jO fl Nx U) (
 (aj .eql aD true fl (.int .u8 20)).wp K U (fun ER U =>
 aq ER (
 xY eN jO fl ER U) (
 (aj .eql aD true fl (.int .u8 21)).wp K U (fun ET U =>
 aq ET (
 xY eN jO fl ET U) (
 (aj .eql aD true fl (.int .u8 22)).wp K U (fun GV U =>
 aq GV (
 xY eN jO fl GV U) (
 (aj .eql aD true fl (.int .u8 23)).wp K U (fun v85 U =>
 aq v85 (
 xY eN jO fl v85 U) (
 (aj .eql aD true fl (.int .u8 24)).wp K U (fun Ny U =>
 xY eN jO fl Ny U) (aa R))) (aa R))) (aa R))) (aa R))) (aa R))) (aa R))) (aa R))) (aa R))) (aa R))) (aa R))) (aa R))) (aa R))) (aa R))) fun BS =>
 (aj .eql aD true v8 (.int .u8 3)).wp K U (fun dO U =>
 aq dO (
 BS v1 v5 v8 dO U) (
 (aj .eql aD true v8 (.int .u8 4)).wp K U (fun dE U =>
 BS v1 v5 v8 dE U) (aa R))) (aa R))) fun j =>
 (aj .eql aD true a0 (.int .u8 2)).wp K U (fun bS U =>
 aq bS (
 j a1 v7 a0 bS U) (
 (aj .eql aD true a0 (.int .u8 5)).wp K U (fun bH U =>
 j a1 v7 a0 bH U) (aa R))) (aa R))) (aa R)) (aa R)
def Q8 : Prop :=
 (bz (some false) a0).wp K U (fun v8 U =>
 (qi (some (3, 1)) (some [.int .i64 0]) true v8 v8).wp K U (fun v9 U =>
 cK 3 [a0, v9, (.int .i64 0)] U fun lp v0 v3 v4 U =>
 (bz (some false) v0).wp K U (fun v12 U =>
 (aj .lss aD false v4 v12).wp K U (fun bI U =>
 aq bI (
 af K 67 [v0, v4] U (ax (fun bZ U =>
 cK 5 [v0, v3, v4, bZ, (.int .i64 0)] U fun o4 kh gE dN v5 v6 U =>
 (bz (some false) v5).wp K U (fun v21 U =>
 (aj .lss aD false v6 v21).wp K U (fun cm U =>
 aq cm (
 (fun aG : St =>
 aw K (aF (some (3, 1)) none v5 v6) (fun v28 =>
 aw K (ao aK v28 aG) (fun cC =>
 aw K (aF (some (3, 1)) none gE dN) (fun fG =>
 aw K (ao aK fG aG) (fun dP =>
 aw K (aj .add aD true dP (.int .i64 1)) (fun eI =>
 aw K (aF (some (3, 1)) none gE cC) (fun er =>
 (aL aK er eI U).wp K U (fun _ U =>
 (aj .add aD true v6 (.int .i64 1)).wp K U (fun v24 U =>
 o4 kh gE dN v5 v24 U) (aa R)) (aa R)))))))) U) (
 (aj .add aD true dN (.int .i64 1)).wp K U (fun bH U =>
 lp kh gE bH U) (aa R))) (aa R)) (aa R)) (aa R))) (
 ak R v3 U)) (aa R)) (aa R)) (aa R)) (aa R)
def Q9 : Prop :=
 (bz (some true) a0).wp K U (fun v6 U =>
 (aj .gtr aD true v6 (.int .i64 2500)).wp K U (fun v7 U =>
 aq v7 (
 ak R (.aR [(.int .i64 0), (.int .i64 5)]) U) (
 (bz (some true) a0).wp K U (fun v9 U =>
 cK 3 [a0, v9, (.int .i64 0)] U fun lp v0 jh v10 U =>
 (aj .lss aD false v10 jh).wp K U (fun v11 U =>
 aq v11 (
 (eE true none none v0 v10).wp K U (fun bH U =>
 af K 146 [bH] U (ax (fun cG U =>
 (fF .not cG).wp K U (fun cA U =>
 aq cA (
 ak R (.aR [v10, (.int .i64 2)]) U) (
 (aj .add aD true v10 (.int .i64 1)).wp K U (fun cH U =>
 lp v0 jh cH U) (aa R))) (aa R)) (aa R))) (aa R)) (
 ak R (.aR [(.int .i64 0), (.int .i64 0)]) U)) (aa R)) (aa R))) (aa R)) (aa R)
def Ra (a0 a1 : AV) (R : cD -> St -> Prop) (U : St) : Prop :=
 (ao aK a1 U).wp K U (fun v4 U =>
 (ao aK a1 U).wp K U (fun v5 U =>
 (bz (some false) v5).wp K U (fun v6 U =>
 (aj .sub aD true v6 (.int .i64 1)).wp K U (fun v7 U =>
 (aF (some (51, 3)) none v4 v7).wp K U (fun v8 U =>
 (ag (some 1) v8).wp K U (fun v9 U =>
 (ao aK v9 U).wp K U (fun v10 U =>
 (bz (some true) v10).wp K U (fun v11 U =>
 ak R v11 U) (aa R)) (aa R)) (aa R)) (aa R)) (aa R)) (aa R)) (aa R)) (aa R)
def Rb : Prop :=
 (fh a0).wp K U (fun v2 U =>
 (fh a1).wp K U (fun v3 U =>
 ak R (.func (.func 147) [] [v2, v3]) U) (aa R)) (aa R)
def Rc : Prop :=
 (au.cq [.int .u8 0, .str [], .int .i64 0]).wp K U (fun v2 U =>
 af K 149 [a0] U (ax (fun v7 U =>
 (dx true none a0 none (some v7)).wp K U (fun v8 U =>
 (aj .eql aD true v8 (.str w_)).wp K U (fun v11 U =>
 aq v11 (
 af K 150 [a0] U (ax (fun bI U =>
 (bq bI 0).wp K U (fun bS U =>
 (bq bI 1).wp K U (fun bH U =>
 (aL (some (true, 3)) v2 bS U).wp K U (fun _ U =>
 br (some (true, 3)) v2 U fun r0 =>
 ak R (.aR [r0, bH]) U) (aa R)) (aa R)) (aa R)) (aa R))) (
 (eE true none none v8 (.int .i64 0)).wp K U (fun bZ U =>
 (aO (some (178, 1)) (some [.int .i64 0]) 1 false [(0, (.int .i64 2))]).wp K U (fun cH U =>
 af K 151 [bZ, cH] U (ax (fun v20 U =>
 aq v20 (
 (dj (some [(0, 1), (1, 1), (2, 1)]) (some [.int .u8 0, .str [], .int .i64 0]) none [(0, (.int .u8 2)), (1, v8)]).wp K U (fun cm U =>
 af K 152 [v8] U (ax (fun v24 U =>
 (aL (some (true, 3)) v2 cm U).wp K U (fun _ U =>
 br (some (true, 3)) v2 U fun nJ =>
 ak R (.aR [nJ, v24]) U) (aa R)) (aa R))) (aa R)) (
 (eE true none none v8 (.int .i64 0)).wp K U (fun di U =>
 (aO (some (178, 1)) (some [.int .i64 0]) 1 false [(0, (.int .i64 3))]).wp K U (fun v28 U =>
 af K 151 [di, v28] U (ax (fun cC U =>
 (fF .not cC).wp K U (fun v30 U =>
 aq v30 (
 (dj (some [(0, 1), (1, 1), (2, 1)]) (some [.int .u8 0, .str [], .int .i64 0]) none []).wp K U (fun v31 U =>
 (aL (some (true, 3)) v2 v31 U).wp K U (fun _ U =>
 br (some (true, 3)) v2 U fun o9 =>
 ak R (.aR [o9, (.int .i64 4)]) U) (aa R)) (aa R)) (
 af K 153 [] U (ax (fun dP U =>
 (fI (some (.s, 4)) (some (.bool false)) dP v8 false U).wp K U (fun er U =>
 aq er (
 (dj (some [(0, 1), (1, 1), (2, 1)]) (some [.int .u8 0, .str [], .int .i64 0]) none [(0, (.int .u8 3)), (1, v8)]).wp K U (fun v37 U =>
 (aL (some (true, 3)) v2 v37 U).wp K U (fun _ U =>
 br (some (true, 3)) v2 U fun uN =>
 ak R (.aR [uN, (.int .i64 0)]) U) (aa R)) (aa R)) (
 (bz (some true) v8).wp K U (fun v40 U =>
 (aj .gtr aD true v40 (.int .i64 12)).wp K U (fun gQ U =>
 aq gQ (
 (dj (some [(0, 1), (1, 1), (2, 1)]) (some [.int .u8 0, .str [], .int .i64 0]) none []).wp K U (fun iH U =>
 (aL (some (true, 3)) v2 iH U).wp K U (fun _ U =>
 br (some (true, 3)) v2 U fun En =>
 ak R (.aR [En, (.int .i64 4)]) U) (aa R)) (aa R)) (
 (dj (some [(0, 1), (1, 1), (2, 1)]) (some [.int .u8 0, .str [], .int .i64 0]) none [(0, (.int .u8 1)), (1, v8)]).wp K U (fun oM U =>
 (aL (some (true, 3)) v2 oM U).wp K U (fun _ U =>
 br (some (true, 3)) v2 U fun yJ =>
 ak R (.aR [yJ, (.int .i64 0)]) U) (aa R)) (aa R))) (aa R)) (aa R))) (aa R)) (aa R)))) (aa R)) (aa R))) (aa R)) (aa R))) (aa R))) (aa R)) (aa R))) (aa R)) (aa R)) (aa R))) (aa R)
def Rd : Prop :=
 (fh a0).wp K U (fun v2 U =>
 (fh a1).wp K U (fun v3 U =>
 (fun aG : St =>
 aw K (ao aK v3 aG) (fun v6 =>
 aw K (ag (some 0) v2) (fun v7 =>
 aw K (ag (some 0) v7) (fun v8 =>
 aw K (ao aK v8 aG) (fun v9 =>
 aw K (ao aK v3 aG) (fun v10 =>
 aw K (aF (some (43, 6)) none v9 v10) (fun v11 =>
 aw K (ag (some 5) v11) (fun v12 =>
 aw K (ao aK v12 aG) (fun bI =>
 aw K (aj .add aD false v6 bI) (fun bS =>
 (au.cq [.int .i64 0]).wp K U (fun v5 U => cU ((cB v12 ++ []) ++ ((cB v3 ++ []) ++ ((cB v8 ++ []) ++ ((cB v3 ++ []) ++ [])))) aG U /\
 (aL aK v5 bS U).wp K U (fun _ U =>
 ak R (.func (.func 155) [] [v3, v5, v2]) U) (aa R)) (aa R))))))))))) U) (aa R)) (aa R)
def Re : Prop :=
 (fh a0).wp K U (fun v2 U =>
 (aj .sub aD true a1 (.int .i64 1)).wp K U (fun v7 U =>
 cK 3 [a1, v2, v7] U fun lp v1 kS v5 U =>
 (ag (some 0) kS).wp K U (fun v9 U =>
 (ag (some 0) v9).wp K U (fun v10 U =>
 (ao aK v10 U).wp K U (fun v11 U =>
 (aF (some (43, 6)) none v11 v5).wp K U (fun bI U =>
 (ag (some 5) bI).wp K U (fun bS U =>
 (ao aK bS U).wp K U (fun bH U =>
 (aj .add aD false v5 bH).wp K U (fun cG U =>
 (aj .leq aD false cG v1).wp K U (fun bZ U =>
 aq bZ (
 (aj .sub aD true v5 (.int .i64 1)).wp K U (fun v20 U =>
 lp v1 kS v20 U) (aa R)) (
 ak R v5 U)) (aa R)) (aa R)) (aa R)) (aa R)) (aa R)) (aa R)) (aa R)) (aa R)) (aa R)) (aa R)
def Rf : Prop :=
 (fh a0).wp K U (fun v3 U =>
 (au.cq [.al]).wp K U (fun v6 U =>
 (ao (some (true, 1)) v3 U).wp K U (fun v9 U =>
 af K 30 [v9] U (ax (fun v10 U =>
 (aj .neq aD true v10 (.int .i64 0)).wp K U (fun bI U =>
 aq bI (
 (ao (some (true, 1)) v6 U).wp K U (fun bS U =>
 (aL (some (true, 1)) v6 bS U).wp K U (fun _ U =>
 br (some (true, 1)) v6 U fun r0 =>
 ak R (.aR [r0, v10]) U) (aa R)) (aa R)) (
 (ag (some 0) v3).wp K U (fun cA U =>
 (ao aK cA U).wp K U (fun bZ U =>
 (bz (some false) bZ).wp K U (fun cH U =>
 (aj .sub aD true cH (.int .i64 1)).wp K U (fun v20 U =>
 af K 122 [(.int .i64 0), v20, a1] U (ax (fun cm U =>
 (fF .not cm).wp K U (fun du U =>
 aq du (
 (ao (some (true, 1)) v6 U).wp K U (fun v24 U =>
 (aL (some (true, 1)) v6 v24 U).wp K U (fun _ U =>
 br (some (true, 1)) v6 U fun nJ =>
 ak R (.aR [nJ, (.int .i64 3)]) U) (aa R)) (aa R)) (
 (ao (some (true, 1)) v3 U).wp K U (fun di U =>
 (dj (some [(0, 1)]) (some [.al]) none [(0, di)]).wp K U (fun v28 U =>
 (gp K.P a2 [v28]).wp K U (fun cC U =>
 (bq cC 0).wp K U (fun v30 U =>
 (bq cC 1).wp K U (fun v31 U =>
 (aL (some (true, 1)) v6 v30 U).wp K U (fun _ U =>
 (aj .neq aD true v31 (.int .i64 0)).wp K U (fun dP U =>
 aq dP (
 (au.cq [.al]).wp K U (fun v8 U =>
 (ao (some (true, 1)) v8 U).wp K U (fun eI U =>
 (aL (some (true, 1)) v6 eI U).wp K U (fun _ U =>
 br (some (true, 1)) v6 U fun o9 =>
 ak R (.aR [o9, v31]) U) (aa R)) (aa R)) (aa R)) (
 (ao (some (true, 1)) v6 U).wp K U (fun fq U =>
 (aL (some (true, 1)) v6 fq U).wp K U (fun _ U =>
 br (some (true, 1)) v6 U fun uN =>
 ak R (.aR [uN, (.int .i64 0)]) U) (aa R)) (aa R))) (aa R)) (aa R)) (aa R)) (aa R)) (aa R)) (aa R)) (aa R))) (aa R)) (aa R))) (aa R)) (aa R)) (aa R)) (aa R))) (aa R)) (aa R))) (aa R)) (aa R)) (aa R)
def Rh : Prop :=
 (fh a0).wp K U (fun v3 U =>
 (au.cq [.al]).wp K U (fun v4 U =>
 (fun aG : St =>
 aw K (ao aK a1 aG) (fun v10 =>
 aw K (ag (some 0) v3) (fun v11 =>
 aw K (ag (some 0) v11) (fun v12 =>
 aw K (ao aK v12 aG) (fun bI =>
 aw K (ao aK a1 aG) (fun bS =>
 aw K (aF (some (43, 6)) none bI bS) (fun bH =>
 aw K (ag (some 5) bH) (fun cG =>
 aw K (ao aK cG aG) (fun cA =>
 aw K (aj .add aD false v10 cA) (fun bZ =>
 (fun jq : St =>
 aw K (ag (some 0) v3) (fun cH =>
 aw K (ag (some 0) cH) (fun v20 =>
 aw K (ao aK v20 jq) (fun v21 =>
 aw K (ao aK a1 jq) (fun cm =>
 aw K (dx false (some (43, 6)) v21 none (some cm)) (fun du =>
 aw K (ao aK a2 jq) (fun v24 =>
 aw K (ag (some 0) v3) (fun dO =>
 aw K (ag (some 0) dO) (fun dE =>
 aw K (ao aK dE jq) (fun di =>
 aw K (dx false (some (43, 6)) di (some bZ) none) (fun cC =>
 aw K (aO (some (23, 1)) (some [.al]) 3 false [(0, du), (1, v24), (2, cC)]) (fun v30 =>
 af K 95 [v30] U (ax (fun v31 U => cU ((cB dE ++ []) ++ ((cB a2 ++ []) ++ ((cB a1 ++ []) ++ ((cB v20 ++ []) ++ [])))) jq U /\
 (ao aK a1 U).wp K U (fun fG U =>
 cK 7 [a1, a2, v3, v4, bZ, v31, fG] U fun lp v1 v2 gE dN v6 v7 v8 U =>
 (aj .gtr aD true v8 (.int .i64 0)).wp K U (fun eI U =>
 aq eI (
 (ao (some (true, 1)) gE U).wp K U (fun er U =>
 af K 85 [er, v8] U (ax (fun v37 U =>
 (fun IC : St =>
 aw K (aF (some (43, 6)) none v7 v37) (fun v40 =>
 aw K (ag (some 5) v40) (fun gQ =>
 aw K (ao aK gQ IC) (fun iH =>
 aw K (ao aK v2 IC) (fun dY =>
 aw K (bz (some false) dY) (fun oM =>
 aw K (ao aK v1 IC) (fun v46 =>
 aw K (aj .sub aD false v6 v46) (fun ki =>
 aw K (aj .sub aD false oM ki) (fun jg =>
 aw K (aj .add aD false iH jg) (fun v49 =>
 aw K (aF (some (43, 6)) none v7 v37) (fun ku =>
 aw K (ag (some 5) ku) (fun v51 =>
 (aL aK v51 v49 U).wp K U (fun _ U =>
 lp v1 v2 gE dN v6 v7 v37 U) (aa R))))))))))))) U) (aa R))) (aa R)) (
 (dj (some [(0, 1)]) (some [.al]) none [(0, v7)]).wp K U (fun v53 U =>
 (au.cq [.al]).wp K U (fun v9 U =>
 (aL (some (true, 1)) v9 v53 U).wp K U (fun _ U =>
 (fun CK : St =>
 aw K (ao (some (true, 1)) v9 CK) (fun kj =>
 aw K (ao (some (true, 1)) v9 CK) (fun iI =>
 af K 30 [iI] U (ax (fun l9 U => cU ((cB v9 ++ []) ++ ((cB v9 ++ []) ++ [])) CK U /\
 (aL (some (true, 1)) dN kj U).wp K U (fun _ U => cU ((cB v9 ++ []) ++ ((cB v9 ++ []) ++ [])) CK U /\
 br (some (true, 1)) dN U fun r0 =>
 ak R (.aR [r0, l9]) U) (aa R)) (aa R))))) U) (aa R)) (aa R)) (aa R))) (aa R)) (aa R)) (aa R)))))))))))))) U)))))))))) U) (aa R)) (aa R)
def Ri : Prop :=
 (bz (some false) a0).wp K U (fun v10 U =>
 cK 5 [a0, (.int .i64 0), a0, v10, (.int .i64 0)] U fun lp v0 v3 v9 qn v11 U =>
 (aj .lss aD false v11 qn).wp K U (fun v12 U =>
 aq v12 (
 gG 5 (fun kh gE jh YQ qo U =>
 (aj .add aD true qo (.int .i64 1)).wp K U (fun cm U =>
 lp kh gE jh YQ cm U) (aa R)) fun j =>
 (aF (some (23, 1)) none v9 v11).wp K U (fun bI U =>
 (ao aK bI U).wp K U (fun bS U =>
 (bz (some false) bS).wp K U (fun cA U =>
 (aj .add aD false v3 cA).wp K U (fun bZ U =>
 (aj .lss aD true bZ (.int .i64 0)).wp K U (fun v20 U =>
 aq v20 (
 (oA true 9 (.str rz)).wp K U (fun v21 U =>
 (oD v21).wp K U (fun _ U =>
 j v0 bZ v9 qn v11 U) (aa R)) (aa R)) (
 j v0 bZ v9 qn v11 U)) (aa R)) (aa R)) (aa R)) (aa R)) (aa R)) (
 af K 157 [.al, v3] U (ax (fun v24 U =>
 (bz (some false) v0).wp K U (fun dE U =>
 cK 4 [v24, v0, dE, (.int .i64 0)] U fun o4 v6 dO Ah di U =>
 (aj .lss aD false di Ah).wp K U (fun v28 U =>
 aq v28 (
 (aF (some (23, 1)) none dO di).wp K U (fun cC U =>
 (ao aK cC U).wp K U (fun v30 U =>
 (dM (some (43, 6)) true v6 v30 U).wp K U (fun dP U =>
 (aj .add aD true di (.int .i64 1)).wp K U (fun eI U =>
 o4 dP dO Ah eI U) (aa R)) (aa R)) (aa R)) (aa R)) (
 ak R v6 U)) (aa R)) (aa R)) (aa R)))) (aa R)) (aa R)
def YO : Prop :=
 af K 164 [a0] U (ax (fun v7 U =>
 (dj (some [(0, 1), (1, 1), (2, 1), (3, 1), (4, 1), (5, 1)]) (some [.int .u8 0, .str [], .int .i64 0, .int .i64 0, .int .i64 0, .int .i64 0]) none [(0, a1), (4, v7)]).wp K U (fun v8 U =>
 (dj (some [(0, 6), (6, 1)]) (some [.int .u8 0, .str [], .int .i64 0, .int .i64 0, .int .i64 0, .int .i64 0, .al]) none [(0, v8)]).wp K U (fun v9 U =>
 (fh v9).wp K U (fun v10 U =>
 ak R v10 U) (aa R)) (aa R)) (aa R)) (aa R))
def KK : Prop :=
 (aO (some (9, 1)) (some [.str []]) 1 false [(0, a1)]).wp K U (fun v7 U =>
 af K 105 [a0, v7] U (ax (fun v8 U =>
 (fF .not v8).wp K U (fun v9 U =>
 aq v9 (
 ak R (.bool false) U) (
 (bF a0).wp K U (fun v11 U =>
 (ag (some 1) v11).wp K U (fun v12 U =>
 (ao aK v12 U).wp K U (fun bI U =>
 (aj .add aD true bI (.int .i64 1)).wp K U (fun bS U =>
 (bF a0).wp K U (fun bH U =>
 (ag (some 1) bH).wp K U (fun cG U =>
 (aL aK cG bS U).wp K U (fun _ U =>
 ak R (.bool true) U) (aa R)) (aa R)) (aa R)) (aa R)) (aa R)) (aa R)) (aa R))) (aa R)) (aa R))) (aa R)
def Wq : Prop :=
 af K 165 [a0, (.int .u8 1)] U (ax (fun v4 U =>
 ak R v4 U) (aa R))
def Wr : Prop :=
 af K 100 [a0, a1] U (ax (fun v6 U =>
 (fF .not v6).wp K U (fun v7 U =>
 aq v7 (
 af K 166 [a0] U (ax (fun v9 U =>
 ak R (.aR []) U) (aa R))) (
 ak R (.aR []) U)) (aa R)) (aa R))
def KO : Prop :=
 (bF a0).wp K U (fun v7 U =>
 (ag (some 6) v7).wp K U (fun v8 U =>
 (ao aK v8 U).wp K U (fun v9 U =>
 (dM (some (87, 1)) false v9 a1 U).wp K U (fun v11 U =>
 (bF a0).wp K U (fun v12 U =>
 (ag (some 6) v12).wp K U (fun bI U =>
 (aL aK bI v11 U).wp K U (fun _ U =>
 ak R a0 U) (aa R)) (aa R)) (aa R)) (aa R)) (aa R)) (aa R)) (aa R)
def Ws : Prop :=
 af K 167 [a0, (.int .i64 0)] U (ax (fun v6 U =>
 af K 121 [v6, a1] U (ax (fun v8 U =>
 ak R v8 U) (aa R))) (aa R))
def Ev : Prop :=
 (gp K.P a2 []).wp K U (fun v8 U =>
 (aO (some (87, 1)) (some [.a8]) 1 false [(0, v8)]).wp K U (fun v9 U =>
 af K 103 [a1, v9] U (ax (fun v10 U =>
 cK 3 [a0, a1, a2] U fun lp v0 v1 v2 U =>
 af K 100 [v0, (.str xu)] U (ax (fun v12 U =>
 aq v12 (
 (gp K.P v2 []).wp K U (fun bH U =>
 (aO (some (87, 1)) (some [.a8]) 1 false [(0, bH)]).wp K U (fun cG U =>
 af K 103 [v1, cG] U (ax (fun cA U =>
 lp v0 v1 v2 U) (aa R))) (aa R)) (aa R)) (
 ak R (.aR []) U)) (aa R))) (aa R))) (aa R)) (aa R)
def KT : Prop :=
 af K 169 [a0] U (ax (fun v7 U =>
 af K 99 [a0, (.int .u8 9)] U (ax (fun v9 U =>
 (aO (some (87, 1)) (some [.a8]) 1 false [(0, v7)]).wp K U (fun v12 U =>
 af K 103 [v9, v12] U (ax (fun bI U =>
 gG 2 (fun v3 v4 U =>
 (bF v4).wp K U (fun eI U =>
 (ag (some 6) eI).wp K U (fun er U =>
 (ao aK er U).wp K U (fun fq U =>
 (bz (some false) fq).wp K U (fun v37 U =>
 (aj .eql aD true v37 (.int .i64 1)).wp K U (fun eY U =>
 aq eY (
 ak R v3 U) (
 ak R v4 U)) (aa R)) (aa R)) (aa R)) (aa R)) (aa R)) fun j =>
 cK 3 [a0, v7, v9] U fun lp v0 gE dN U =>
 (aO (some (9, 1)) (some [.str []]) 1 false [(0, (.str sj))]).wp K U (fun bH U =>
 af K 105 [v0, bH] U (ax (fun cG U =>
 aq cG (
 af K 167 [v0, (.int .i64 1)] U (ax (fun bZ U =>
 (au.cq [.int .u8 0, .str [], .int .i64 0]).wp K U (fun v5 U =>
 (aL (some (true, 3)) v5 bZ U).wp K U (fun _ U =>
 (ag (some 0) v5).wp K U (fun cH U =>
 (ao aK cH U).wp K U (fun v20 U =>
 (aj .eql aD true v20 (.int .u8 0)).wp K U (fun v21 U =>
 ad K (ar v21 false) (ao (some (true, 3)) v5 U) (fun du =>
 ad K (ar v21 false) (au.enter 61 [du]) (fun v24 =>
 (aQ v21 (.bool true) v24).wp K U (fun dO U =>
 aq dO (
 j gE dN U) (
 af K 102 [v0, (.str sj)] U (ax (fun di U =>
 af K 169 [v0] U (ax (fun v30 U =>
 (aO (some (87, 1)) (some [.a8]) 1 false [(0, v30)]).wp K U (fun v31 U =>
 af K 103 [dN, v31] U (ax (fun fG U =>
 lp v0 gE dN U) (aa R))) (aa R)) (aa R))) (aa R)))) (aa R)))) (aa R)) (aa R)) (aa R)) (aa R)) (aa R)) (aa R))) (
 j gE dN U)) (aa R))) (aa R)) (aa R))) (aa R)) (aa R))) (aa R))
def KV : Prop :=
 (fh a0).wp K U (fun v2 U =>
 (ag (some 0) v2).wp K U (fun v5 U =>
 (ao aK v5 U).wp K U (fun v6 U =>
 (aj .eql aD true v6 (.int .u8 3)).wp K U (fun v7 U =>
 ad K (ar v7 false) (ag (some 0) v2) (fun v9 =>
 ad K (ar v7 false) (ao aK v9 U) (fun v10 =>
 ad K (ar v7 false) (aj .eql aD true v10 (.int .u8 4)) (fun v11 =>
 (aQ v7 (.bool true) v11).wp K U (fun v12 U =>
 ad K (ar v12 true) (au.val a1) (fun bS =>
 ad K (ar v12 true) (ag (some 1) v2) (fun bH =>
 ad K (ar v12 true) (ao aK bH U) (fun cG =>
 ad K (ar v12 true) (au.enter 178 [bS, cG]) (fun cA =>
 (aQ v12 cA (.bool false)).wp K U (fun bZ U =>
 ak R bZ U) (aa R)))))) (aa R))))) (aa R)) (aa R)) (aa R)) (aa R)
def KX : Prop :=
 (aj .geq aD false a2 a0).wp K U (fun v9 U =>
 ad K (ar v9 true) (au.val a2) (fun v11 =>
 ad K (ar v9 true) (au.val a1) (fun v12 =>
 ad K (ar v9 true) (aj .leq aD false v11 v12) (fun bI =>
 (aQ v9 bI (.bool false)).wp K U (fun bS U =>
 ak R bS U) (aa R))))) (aa R)
def KZ : Prop :=
 (fh a0).wp K U (fun v3 U =>
 (fh a1).wp K U (fun v4 U =>
 (au.cq [.bool false]).wp K U (fun v6 U =>
 (ag (some 0) v3).wp K U (fun bI U =>
 (ag (some 0) bI).wp K U (fun bS U =>
 (ao aK bS U).wp K U (fun bH U =>
 (ao aK v4 U).wp K U (fun cG U =>
 (aF (some (43, 6)) none bH cG).wp K U (fun cA U =>
 (ao (some (true, 6)) cA U).wp K U (fun bZ U =>
 (au.cq [.int .u8 0, .str [], .int .i64 0, .int .i64 0, .int .i64 0, .int .i64 0]).wp K U (fun v7 U =>
 (aL (some (true, 6)) v7 bZ U).wp K U (fun _ U =>
 (ag (some 0) v7).wp K U (fun v21 U =>
 (ao aK v21 U).wp K U (fun cm U =>
 (fI (some (.i, 204)) (some (.agg [.bool false, .bool false, .bool false, .al])) a2 cm true U).wp K U (fun du U =>
 (bq du 0).wp K U (fun v24 U =>
 (bq du 1).wp K U (fun dO U =>
 (au.cq [.bool false, .bool false, .bool false, .al]).wp K U (fun v8 U =>
 (aL (some (true, 4)) v8 v24 U).wp K U (fun _ U =>
 (fF .not dO).wp K U (fun di U =>
 ad K (ar di false) (ag (some 0) v3) (fun cC =>
 ad K (ar di false) (ag (some 0) cC) (fun v30 =>
 ad K (ar di false) (ao aK v30 U) (fun v31 =>
 ad K (ar di false) (bz (some false) v31) (fun fG =>
 ad K (ar di false) (ao aK v4 U) (fun dP =>
 ad K (ar di false) (aj .sub aD false fG dP) (fun eI =>
 ad K (ar di false) (ag (some 5) v7) (fun er =>
 ad K (ar di false) (ao aK er U) (fun fq =>
 ad K (ar di false) (au.enter 122 [(.int .i64 1), eI, fq]) (fun v37 =>
 ad K (ar di false) (fF .not v37) (fun eY =>
 (aQ di (.bool true) eY).wp K U (fun je U =>
 ad K (ar je false) (ag (some 0) v8) (fun gQ =>
 ad K (ar je false) (ao aK gQ U) (fun iH =>
 ad K (ar je false) (ag (some 1) v7) (fun dY =>
 ad K (ar je false) (ao aK dY U) (fun oM =>
 ad K (ar je false) (aj .neq aD true oM (.str w_)) (fun jf =>
 ad K (ar je false) (aj .neq (BT.mk true false false none false) false iH jf) (fun v46 =>
 (aQ je (.bool true) v46).wp K U (fun ki U =>
 ad K (ar ki false) (ag (some 0) v8) (fun v49 =>
 ad K (ar ki false) (ao aK v49 U) (fun ku =>
 ad K (ar ki false) (au.val ku) (fun v51 =>
 ad K (ar v51 true) (ag (some 1) v7) (fun kx =>
 ad K (ar v51 true) (ao aK kx U) (fun v53 =>
 ad K (ar v51 true) (au.enter 208 [v53]) (fun kj =>
 ad K (ar v51 true) (fF .not kj) (fun iI =>
 ad K (ar ki false) (aQ v51 iI (.bool false)) (fun l9 =>
 (aQ ki (.bool true) l9).wp K U (fun ky U =>
 aq ky (
 (aL aK v6 (.bool false) U).wp K U (fun _ U =>
 br aK v6 U fun r0 =>
 ak R r0 U) (aa R)) (
 (ag (some 2) v7).wp K U (fun ni U =>
 (ao aK ni U).wp K U (fun v59 U =>
 af K 122 [(.int .i64 0), (.int .i64 1000000), v59] U (ax (fun rl U =>
 (fF .not rl).wp K U (fun p8 U =>
 ad K (ar p8 false) (ag (some 3) v7) (fun rm =>
 ad K (ar p8 false) (ao aK rm U) (fun mb =>
 ad K (ar p8 false) (au.enter 122 [(.int .i64 0), (.int .i64 1000000), mb]) (fun tL =>
 ad K (ar p8 false) (fF .not tL) (fun EP =>
 (aQ p8 (.bool true) EP).wp K U (fun oV U =>
 ad K (ar oV false) (ag (some 1) v8) (fun Aj =>
 ad K (ar oV false) (ao aK Aj U) (fun v70 =>
 ad K (ar oV false) (fF .not v70) (fun rn =>
 ad K (ar oV false) (au.val rn) (fun v72 =>
 ad K (ar v72 true) (ag (some 2) v7) (fun tM =>
 ad K (ar v72 true) (ao aK tM U) (fun rp =>
 ad K (ar v72 true) (aj .neq aD true rp (.int .i64 0)) (fun v75 =>
 ad K (ar oV false) (aQ v72 v75 (.bool false)) (fun v76 =>
 (aQ oV (.bool true) v76).wp K U (fun rq U =>
 ad K (ar rq false) (ag (some 2) v8) (fun RB =>
 ad K (ar rq false) (ao aK RB U) (fun v80 =>
 ad K (ar rq false) (fF .not v80) (fun Nx =>
 ad K (ar rq false) (au.val Nx) (fun ER =>
 ad K (ar ER true) (ag (some 3) v7) (fun ET =>
 ad K (ar ER true) (ao aK ET U) (fun GV =>
 ad K (ar ER true) (aj .neq aD true GV (.int .i64 0)) (fun v85 =>
 ad K (ar rq false) (aQ ER v85 (.bool false)) (fun Ny =>
 (aQ rq (.bool true) Ny).wp K U (fun v87 U =>
 aq v87 (
 (aL aK v6 (.bool false) U).wp K U (fun _ U =>
 br aK v6 U fun nJ =>
 ak R nJ U) (aa R)) (
 (au.cq [.al]).wp K U (fun v10 U =>
 (ao aK v4 U).wp K U (fun Nz U =>
 (aj .add aD true Nz (.int .i64 1)).wp K U (fun W9 U =>
 (au.cq [.int .i64 0]).wp K U (fun v11 U =>
 (aL aK v11 W9 U).wp K U (fun _ U =>
 (ao (some (true, 1)) v3 U).wp K U (fun EU U =>
 (ao aK v4 U).wp K U (fun v91 U =>
 af K 81 [EU, v91] U (ax (fun Xa U =>
 tE K 1 Xa U (fun v93 q U =>
 q.Gw (fun U =>
 (fun aG : St =>
 aw K (ao aK v10 aG) (fun GW =>
 aw K (ag (some 0) v3) (fun GX =>
 aw K (ag (some 0) GX) (fun NA =>
 aw K (ao aK NA aG) (fun RC =>
 aw K (aF (some (43, 6)) none RC v93) (fun v99 =>
 aw K (ag (some 0) v99) (fun Bf =>
 aw K (ao aK Bf aG) (fun abi =>
 aw K (aO (some (5, 1)) (some [.int .u8 0]) 1 false [(0, abi)]) (fun PL =>
 (dM (some (5, 1)) false GW PL U).wp K U (fun PM U => cU ((cB Bf ++ []) ++ ((cB NA ++ []) ++ ((cB v10 ++ []) ++ []))) aG U /\
 (aL aK v10 PM U).wp K U (fun _ U =>
 (fun jq : St =>
 aw K (ao aK v4 jq) (fun PN =>
 aw K (ag (some 5) v7) (fun v105 =>
 aw K (ao aK v105 jq) (fun PO =>
 aw K (aj .add aD false PN PO) (fun v107 =>
 aw K (aj .sub aD false v107 v93) (fun v109 =>
 aw K (ag (some 0) v3) (fun PS =>
 aw K (ag (some 0) PS) (fun PT =>
 aw K (ao aK PT jq) (fun PU =>
 aw K (aF (some (43, 6)) none PU v93) (fun PV =>
 aw K (ag (some 5) PV) (fun abj =>
 aw K (ao aK abj jq) (fun wO =>
 aw K (au.enter 122 [(.int .i64 1), v109, wO]) (fun v117 =>
 aw K (fF .not v117) (fun PW =>
 aq PW (
 (aL aK v6 (.bool false) U).wp K U (fun _ U =>
 q.r U) (fun _ _ => False)) (
 (ag (some 0) v3).wp K U (fun PX U =>
 (ag (some 0) PX).wp K U (fun PY U =>
 (ao aK PY U).wp K U (fun PZ U =>
 (aF (some (43, 6)) none PZ v93).wp K U (fun v124 U =>
 (ag (some 5) v124).wp K U (fun P0 U =>
 (ao aK P0 U).wp K U (fun P1 U =>
 (aj .add aD false v93 P1).wp K U (fun v127 U =>
 (aL aK v11 v127 U).wp K U (fun _ U =>
 q.n U) (fun _ _ => False)) (fun _ _ => False)) (fun _ _ => False)) (fun _ _ => False)) (fun _ _ => False)) (fun _ _ => False)) (fun _ _ => False)) (fun _ _ => False)))))))))))))))) U) (fun _ _ => False)) (fun _ _ => False)))))))))) U) U) (fun U =>
 (ao aK v11 U).wp K U (fun P2 U =>
 (ao aK v4 U).wp K U (fun P3 U =>
 (ag (some 5) v7).wp K U (fun v130 U =>
 (ao aK v130 U).wp K U (fun v131 U =>
 (aj .add aD false P3 v131).wp K U (fun abl U =>
 (aj .eql aD false P2 abl).wp K U (fun wP U =>
 ad K (ar wP true) (ao aK v10 U) (fun yU =>
 ad K (ar wP true) (ag (some 3) v8) (fun abm =>
 ad K (ar wP true) (ao aK abm U) (fun P4 =>
 aq (ar wP true) (
 af K 209 [yU, P4] U (ax (fun v138 U =>
 (aQ wP v138 (.bool false)).wp K U (fun v139 U =>
 (aL aK v6 v139 U).wp K U (fun _ U =>
 br aK v6 U fun o9 =>
 ak R o9 U) (aa R)) (aa R)) (aa R))) (
 (aQ wP (.aR []) (.bool false)).wp K U (fun W0 U =>
 (aL aK v6 W0 U).wp K U (fun _ U =>
 br aK v6 U fun uN =>
 ak R uN U) (aa R)) (aa R)))))) (aa R)) (aa R)) (aa R)) (aa R)) (aa R)) (aa R)) (fun i U =>
 I7 (Nat.beq i 0) (
 (ao aK v11 U).wp K U (fun WR U =>
 (ao aK v4 U).wp K U (fun WS U =>
 (ag (some 5) v7).wp K U (fun WT U =>
 (ao aK WT U).wp K U (fun WU U =>
 (aj .add aD false WS WU).wp K U (fun WV U =>
 (aj .eql aD false WR WV).wp K U (fun tJ U =>
 ad K (ar tJ true) (ao aK v10 U) (fun WW =>
 ad K (ar tJ true) (ag (some 3) v8) (fun WX =>
 ad K (ar tJ true) (ao aK WX U) (fun WY =>
 aq (ar tJ true) (
 af K 209 [WW, WY] U (ax (fun WZ U =>
 (aQ tJ WZ (.bool false)).wp K U (fun W1 U =>
 (aL aK v6 W1 U).wp K U (fun _ U =>
 br aK v6 U fun En =>
 ak R En U) (aa R)) (aa R)) (aa R))) (
 (aQ tJ (.aR []) (.bool false)).wp K U (fun W2 U =>
 (aL aK v6 W2 U).wp K U (fun _ U =>
 br aK v6 U fun yJ =>
 ak R yJ U) (aa R)) (aa R)))))) (aa R)) (aa R)) (aa R)) (aa R)) (aa R)) (aa R)) (
 False)) (fun U =>
 br aK v6 U fun Eo =>
 ak R Eo U) (fun x U => (aa R) x U)) (aa R))) (aa R)) (aa R)) (aa R)) (aa R)) (aa R)) (aa R)) (aa R))) (aa R)))))))))) (aa R)))))))))) (aa R)))))) (aa R)) (aa R))) (aa R)) (aa R))) (aa R)))))))))) (aa R)))))))) (aa R)))))))))))) (aa R)) (aa R)) (aa R)) (aa R)) (aa R)) (aa R)) (aa R)) (aa R)) (aa R)) (aa R)) (aa R)) (aa R)) (aa R)) (aa R)) (aa R)) (aa R)) (aa R)) (aa R)) (aa R)
def K3 : Prop :=
 af K 210 [a0, a1] U (ax (fun v10 U =>
 (aj .eql aD true v10 (.int .i64 (-1))).wp K U (fun v12 U =>
 aq v12 (
 ak R a0 U) (
 (aj .add aD true v10 (.int .i64 1)).wp K U (fun bH U =>
 cK 4 [a0, a1, v10, bH] U fun lp v0 v1 v5 v6 U =>
 (bz (some false) v0).wp K U (fun bZ U =>
 (aj .lss aD false v6 bZ).wp K U (fun cH U =>
 aq cH (
 gG 4 (fun kh eN jO mc U =>
 (aj .add aD true mc (.int .i64 1)).wp K U (fun v21 U =>
 lp kh eN jO v21 U) (aa R)) fun j =>
 (aF (some (3, 1)) none v0 v6).wp K U (fun v24 U =>
 (ao aK v24 U).wp K U (fun dO U =>
 (gp K.P v1 [dO]).wp K U (fun v28 U =>
 (fF .not v28).wp K U (fun cC U =>
 aq cC (
 (aF (some (3, 1)) none v0 v5).wp K U (fun dP U =>
 (aL aK dP dO U).wp K U (fun _ U =>
 (aj .add aD true v5 (.int .i64 1)).wp K U (fun er U =>
 j v0 v1 er v6 U) (aa R)) (aa R)) (aa R)) (
 j v0 v1 v5 v6 U)) (aa R)) (aa R)) (aa R)) (aa R)) (
 (dx false (some (3, 1)) v0 (some v5) none).wp K U (fun eY U =>
 (zc (some (3, 1)) (some [.int .i64 0]) eY U).wp K U (fun _ U =>
 (dx false (some (3, 1)) v0 none (some v5)).wp K U (fun gQ U =>
 ak R gQ U) (aa R)) (aa R)) (aa R))) (aa R)) (aa R)) (aa R))) (aa R)) (aa R))
def K5 : Prop :=
 (ao aK a1 U).wp K U (fun v5 U =>
 (aj .leq aD false a0 v5).wp K U (fun v6 U =>
 ak R v6 U) (aa R)) (aa R)
def K7 : Prop :=
 gG 1 (fun v4 U =>
 aq v4 (
 ak R (.bool true) U) (
 ak R (.bool false) U)) fun j =>
 (aj .eql aD true a0 (.int .u8 2)).wp K U (fun v5 U =>
 aq v5 (
 j v5 U) (
 (aj .eql aD true a0 (.int .u8 3)).wp K U (fun v6 U =>
 aq v6 (
 j v6 U) (
 (aj .eql aD true a0 (.int .u8 4)).wp K U (fun v7 U =>
 aq v7 (
 j v7 U) (
 (aj .eql aD true a0 (.int .u8 5)).wp K U (fun v8 U =>
 aq v8 (
 j v8 U) (
 (aj .eql aD true a0 (.int .u8 12)).wp K U (fun v9 U =>
 aq v9 (
 j v9 U) (
 (aj .eql aD true a0 (.int .u8 13)).wp K U (fun v10 U =>
 aq v10 (
 j v10 U) (
 (aj .eql aD true a0 (.int .u8 14)).wp K U (fun v11 U =>
 aq v11 (
 j v11 U) (
 (aj .eql aD true a0 (.int .u8 16)).wp K U (fun v12 U =>
 aq v12 (
 j v12 U) (
 (aj .eql aD true a0 (.int .u8 31)).wp K U (fun bI U =>
 aq bI (
 j bI U) (
 (aj .eql aD true a0 (.int .u8 32)).wp K U (fun bS U =>
 aq bS (
 j bS U) (
 (aj .eql aD true a0 (.int .u8 33)).wp K U (fun bH U =>
 aq bH (
 j bH U) (
 (aj .eql aD true a0 (.int .u8 34)).wp K U (fun cG U =>
 aq cG (
 j cG U) (
 (aj .eql aD true a0 (.int .u8 37)).wp K U (fun cA U =>
 j cA U) (aa R))) (aa R))) (aa R))) (aa R))) (aa R))) (aa R))) (aa R))) (aa R))) (aa R))) (aa R))) (aa R))) (aa R))) (aa R)
def K9 : Prop :=
 (dj (some [(0, 1), (1, 1), (2, 1)]) (some [.int .u8 0, .str [], .int .i64 0]) none [(0, (.int .u8 1)), (1, a0)]).wp K U (fun v4 U =>
 af K 211 [v4] U (ax (fun v5 U =>
 ak R v5 U) (aa R))) (aa R)
def Lb : Prop :=
 af K 141 [a0] U (ax (fun v4 U =>
 ad K (ar v4 false) (au.val a0) (fun v6 =>
 ad K (ar v4 false) (aj .eql aD true v6 (.int .u8 12)) (fun v7 =>
 (aQ v4 (.bool true) v7).wp K U (fun v8 U =>
 ad K (ar v8 false) (au.val a0) (fun v10 =>
 ad K (ar v8 false) (aj .eql aD true v10 (.int .u8 14)) (fun v11 =>
 (aQ v8 (.bool true) v11).wp K U (fun v12 U =>
 ad K (ar v12 false) (au.val a0) (fun bS =>
 ad K (ar v12 false) (aj .eql aD true bS (.int .u8 25)) (fun bH =>
 (aQ v12 (.bool true) bH).wp K U (fun cG U =>
 ad K (ar cG false) (au.val a0) (fun bZ =>
 ad K (ar cG false) (aj .eql aD true bZ (.int .u8 26)) (fun cH =>
 (aQ cG (.bool true) cH).wp K U (fun v20 U =>
 ak R v20 U) (aa R)))) (aa R)))) (aa R)))) (aa R)))) (aa R))
def Ld : Prop :=
 (aj .geq aD true a0 (.int .i64 0)).wp K U (fun v4 U =>
 ad K (ar v4 true) (au.val a0) (fun v6 =>
 ad K (ar v4 true) (aj .leq aD true v6 (.int .i64 1000000)) (fun v7 =>
 (aQ v4 v7 (.bool false)).wp K U (fun v8 U =>
 ak R v8 U) (aa R)))) (aa R)
def Lg : Prop :=
 cK 2 [a0, (.int .i64 0)] U fun lp v0 v3 U =>
 (bz (some false) v0).wp K U (fun v6 U =>
 (aj .lss aD false v3 v6).wp K U (fun v7 U =>
 aq v7 (
 (aF (some (5, 1)) none v0 v3).wp K U (fun v12 U =>
 (ao aK v12 U).wp K U (fun bI U =>
 af K 191 [bI] U (ax (fun bS U =>
 (fF .not bS).wp K U (fun bH U =>
 aq bH (
 ak R (.bool false) U) (
 (aj .add aD true v3 (.int .i64 1)).wp K U (fun v9 U =>
 lp v0 v9 U) (aa R))) (aa R)) (aa R))) (aa R)) (aa R)) (
 ak R (.bool true) U)) (aa R)) (aa R)
def Li : Prop :=
 af K 141 [a0] U (ax (fun v4 U =>
 ad K (ar v4 false) (au.val a0) (fun v6 =>
 ad K (ar v4 false) (aj .eql aD true v6 (.int .u8 8)) (fun v7 =>
 (aQ v4 (.bool true) v7).wp K U (fun v8 U =>
 ak R v8 U) (aa R)))) (aa R))
def Lk : Prop :=
 cK 3 [a0, a1, (.int .i64 0)] U fun lp v0 v1 v5 U =>
 (bz (some false) v0).wp K U (fun v8 U =>
 (aj .lss aD false v5 v8).wp K U (fun v9 U =>
 aq v9 (
 (aF (some (5, 1)) none v0 v5).wp K U (fun bS U =>
 (ao aK bS U).wp K U (fun bH U =>
 (aj .neq aD false bH v1).wp K U (fun cA U =>
 aq cA (
 ak R (.bool false) U) (
 (aj .add aD true v5 (.int .i64 1)).wp K U (fun v11 U =>
 lp v0 v1 v11 U) (aa R))) (aa R)) (aa R)) (aa R)) (
 ak R (.bool true) U)) (aa R)) (aa R)
def Lm : Prop :=
 (aj .eql aD true a0 (.int .u8 6)).wp K U (fun v4 U =>
 ad K (ar v4 false) (au.val a0) (fun v6 =>
 ad K (ar v4 false) (aj .eql aD true v6 (.int .u8 7)) (fun v7 =>
 (aQ v4 (.bool true) v7).wp K U (fun v8 U =>
 ak R v8 U) (aa R)))) (aa R)
def Lo : Prop :=
 (aj .geq aD true a0 (.int .u8 9)).wp K U (fun v4 U =>
 ad K (ar v4 true) (au.val a0) (fun v6 =>
 ad K (ar v4 true) (aj .leq aD true v6 (.int .u8 34)) (fun v7 =>
 (aQ v4 v7 (.bool false)).wp K U (fun v8 U =>
 ak R v8 U) (aa R)))) (aa R)
def Lq : Prop :=
 cK 2 [a0, (.int .i64 0)] U fun lp v0 v3 U =>
 (bz (some false) v0).wp K U (fun v6 U =>
 (aj .lss aD false v3 v6).wp K U (fun v7 U =>
 aq v7 (
 (aF (some (5, 1)) none v0 v3).wp K U (fun v12 U =>
 (ao aK v12 U).wp K U (fun bI U =>
 af K 141 [bI] U (ax (fun bS U =>
 (fF .not bS).wp K U (fun bH U =>
 aq bH (
 ak R (.bool false) U) (
 (aj .add aD true v3 (.int .i64 1)).wp K U (fun v9 U =>
 lp v0 v9 U) (aa R))) (aa R)) (aa R))) (aa R)) (aa R)) (
 ak R (.bool true) U)) (aa R)) (aa R)
def Ls : Prop :=
 cK 2 [a0, (.int .i64 0)] U fun lp v0 v3 U =>
 (bz (some false) v0).wp K U (fun v6 U =>
 (aj .lss aD false v3 v6).wp K U (fun v7 U =>
 aq v7 (
 (aF (some (5, 1)) none v0 v3).wp K U (fun v12 U =>
 (ao aK v12 U).wp K U (fun bI U =>
 af K 142 [bI] U (ax (fun bS U =>
 (fF .not bS).wp K U (fun bH U =>
 aq bH (
 ak R (.bool false) U) (
 (aj .add aD true v3 (.int .i64 1)).wp K U (fun v9 U =>
 lp v0 v9 U) (aa R))) (aa R)) (aa R))) (aa R)) (aa R)) (
 ak R (.bool true) U)) (aa R)) (aa R)
def Lu : Prop :=
 cK 2 [a0, (.int .i64 0)] U fun lp v0 v3 U =>
 (bz (some false) v0).wp K U (fun v6 U =>
 (aj .lss aD false v3 v6).wp K U (fun v7 U =>
 aq v7 (
 (aF (some (5, 1)) none v0 v3).wp K U (fun v12 U =>
 (ao aK v12 U).wp K U (fun bI U =>
 af K 142 [bI] U (ax (fun bS U =>
 (fF .not bS).wp K U (fun bH U =>
 ad K (ar bH true) (au.val v0) (fun cA =>
 ad K (ar bH true) (au.val v3) (fun bZ =>
 ad K (ar bH true) (aF (some (5, 1)) none cA bZ) (fun cH =>
 ad K (ar bH true) (ao aK cH U) (fun v20 =>
 ad K (ar bH true) (aj .neq aD true v20 (.int .u8 35)) (fun v21 =>
 (aQ bH v21 (.bool false)).wp K U (fun cm U =>
 ad K (ar cm true) (au.val v0) (fun v24 =>
 ad K (ar cm true) (au.val v3) (fun dO =>
 ad K (ar cm true) (aF (some (5, 1)) none v24 dO) (fun dE =>
 ad K (ar cm true) (ao aK dE U) (fun di =>
 ad K (ar cm true) (aj .neq aD true di (.int .u8 36)) (fun v28 =>
 (aQ cm v28 (.bool false)).wp K U (fun cC U =>
 aq cC (
 ak R (.bool false) U) (
 (aj .add aD true v3 (.int .i64 1)).wp K U (fun v9 U =>
 lp v0 v9 U) (aa R))) (aa R))))))) (aa R))))))) (aa R)) (aa R))) (aa R)) (aa R)) (
 ak R (.bool true) U)) (aa R)) (aa R)
def Lw : Prop :=
 (aO (some (178, 1)) (some [.int .i64 0]) 1 false [(0, (.int .i64 0))]).wp K U (fun v4 U =>
 af K 151 [a0, v4] U (ax (fun v5 U =>
 (fF .not v5).wp K U (fun v6 U =>
 ak R v6 U) (aa R)) (aa R))) (aa R)
def Ly : Prop :=
 cK 4 [a0, a1, a2, (.int .i64 0)] U fun lp v0 v1 v2 v4 U =>
 (ao aK v1 U).wp K U (fun v9 U =>
 (bz (some true) v9).wp K U (fun v10 U =>
 (aj .lss aD false v4 v10).wp K U (fun v11 U =>
 aq v11 (
 (ao aK v1 U).wp K U (fun v12 U =>
 (eE true none none v12 v4).wp K U (fun bS U =>
 gG 6 (fun kh eN kS dN YR v24 U =>
 aq v24 (
 (aj .add aD true dN (.int .i64 1)).wp K U (fun v28 U =>
 lp kh eN kS v28 U) (aa R)) (
 (aj .eql aD true YR (.int .u8 126)).wp K U (fun v30 U =>
 aq v30 (
 (ao aK eN U).wp K U (fun fG U =>
 (dx true none fG (some dN) none).wp K U (fun eI U =>
 af K 148 [eI, (.str Al)] U (ax (fun er U =>
 (bq er 0).wp K U (fun fq U =>
 (bq er 1).wp K U (fun v37 U =>
 (bq er 2).wp K U (fun eY U =>
 (gp K.P kh [dN, fq]).wp K U (fun iH U =>
 (fF .not iH).wp K U (fun dY U =>
 aq dY (
 ak R (.aR []) U) (
 (bz (some true) fq).wp K U (fun v46 U =>
 (aj .add aD false dN v46).wp K U (fun ki U =>
 lp kh eN kS ki U) (aa R)) (aa R))) (aa R)) (aa R)) (aa R)) (aa R)) (aa R)) (aa R))) (aa R)) (aa R)) (
 (gp K.P kh [dN, (.str w_)]).wp K U (fun cA U =>
 (fF .not cA).wp K U (fun bZ U =>
 aq bZ (
 ak R (.aR []) U) (
 (ao aK kS U).wp K U (fun v20 U =>
 (gp K.P v20 [dN]).wp K U (fun cm U =>
 (aj .add aD false dN cm).wp K U (fun du U =>
 lp kh eN kS du U) (aa R)) (aa R)) (aa R))) (aa R)) (aa R))) (aa R))) fun j =>
 (aj .eql aD true bS (.int .u8 32)).wp K U (fun dO U =>
 aq dO (
 j v0 v1 v2 v4 bS dO U) (
 (aj .eql aD true bS (.int .u8 10)).wp K U (fun dE U =>
 j v0 v1 v2 v4 bS dE U) (aa R))) (aa R)) (aa R)) (aa R)) (
 ak R (.aR []) U)) (aa R)) (aa R)) (aa R)
def Wt : Prop :=
 af K 212 [a0, a1] U (ax (fun v9 U =>
 (bq v9 0).wp K U (fun v10 U =>
 (bq v9 1).wp K U (fun v11 U =>
 (bq v9 2).wp K U (fun v12 U =>
 ak R (.aR [v10, v11, v12]) U) (aa R)) (aa R)) (aa R)) (aa R))
def LB : Prop :=
 cK 2 [a0, (.int .i64 0)] U fun lp v0 v2 U =>
 (bz (some true) v0).wp K U (fun v5 U =>
 (aj .lss aD false v2 v5).wp K U (fun v6 U =>
 ad K (ar v6 true) (au.val v0) (fun v8 =>
 ad K (ar v6 true) (au.val v2) (fun v9 =>
 ad K (ar v6 true) (eE true none none v8 v9) (fun v10 =>
 ad K (ar v6 true) (aO (some (178, 1)) (some [.int .i64 0]) 3 false [(0, (.int .i64 2)), (1, (.int .i64 3)), (2, (.int .i64 4))]) (fun v11 =>
 ad K (ar v6 true) (au.enter 151 [v10, v11]) (fun v12 =>
 (aQ v6 v12 (.bool false)).wp K U (fun bI U =>
 aq bI (
 (aj .add aD true v2 (.int .i64 1)).wp K U (fun bH U =>
 lp v0 bH U) (aa R)) (
 ak R v2 U)) (aa R))))))) (aa R)) (aa R)
def LF : Prop :=
 (au.cq [.int .u8 0, .str [], .int .i64 0]).wp K U (fun v2 U =>
 (dj none (some [.str [], .str []]) (some (2, 9, 1)) [(0, (.str da)), (1, (.str ji))]).wp K U (fun v6 U =>
 cK 4 [a0, v2, v6, (.int .i64 0)] U fun lp v0 kS mc v7 U =>
 (aj .lss aD true v7 (.int .i64 2)).wp K U (fun v8 U =>
 aq v8 (
 (eE false (some (2, 9, 1)) aK mc v7).wp K U (fun v9 U =>
 af K 213 [v0, v9] U (ax (fun v12 U =>
 aq v12 (
 (dj (some [(0, 1), (1, 1), (2, 1)]) (some [.int .u8 0, .str [], .int .i64 0]) none [(0, (.int .u8 4)), (1, v9)]).wp K U (fun bS U =>
 (aL (some (true, 3)) kS bS U).wp K U (fun _ U =>
 br (some (true, 3)) kS U fun r0 =>
 ak R (.aR [r0, (.int .i64 0)]) U) (aa R)) (aa R)) (
 (aj .add aD true v7 (.int .i64 1)).wp K U (fun bH U =>
 lp v0 kS mc bH U) (aa R))) (aa R))) (aa R)) (
 (aj .eql aD true v0 (.str w_)).wp K U (fun cA U =>
 ad K (ar cA false) (au.val v0) (fun cH =>
 ad K (ar cA false) (eE true none none cH (.int .i64 0)) (fun v20 =>
 ad K (ar cA false) (au.enter 214 [(.str dr), v20]) (fun v21 =>
 ad K (ar cA false) (aj .lss aD true v21 (.int .i64 0)) (fun cm =>
 (aQ cA (.bool true) cm).wp K U (fun du U =>
 aq du (
 (dj (some [(0, 1), (1, 1), (2, 1)]) (some [.int .u8 0, .str [], .int .i64 0]) none []).wp K U (fun v24 U =>
 (aL (some (true, 3)) kS v24 U).wp K U (fun _ U =>
 br (some (true, 3)) kS U fun nJ =>
 ak R (.aR [nJ, (.int .i64 4)]) U) (aa R)) (aa R)) (
 (dx true none v0 none (some (.int .i64 1))).wp K U (fun dE U =>
 (dj (some [(0, 1), (1, 1), (2, 1)]) (some [.int .u8 0, .str [], .int .i64 0]) none [(0, (.int .u8 4)), (1, dE)]).wp K U (fun di U =>
 (aL (some (true, 3)) kS di U).wp K U (fun _ U =>
 br (some (true, 3)) kS U fun o9 =>
 ak R (.aR [o9, (.int .i64 0)]) U) (aa R)) (aa R)) (aa R))) (aa R)))))) (aa R))) (aa R)) (aa R)) (aa R)
def Wu : Prop :=
 af K 216 [a0] U (ax (fun v7 U =>
 af K 215 [a1, v7] U (ax (fun v8 U =>
 ak R v8 U) (aa R))) (aa R))
def LI : Prop :=
 (bz (some true) a0).wp K U (fun v6 U =>
 cK 4 [a0, (.int .i64 0), v6, (.int .i64 0)] U fun lp v0 v3 mc v7 U =>
 (aj .lss aD false v7 mc).wp K U (fun v8 U =>
 aq v8 (
 (eE true none none v0 v7).wp K U (fun v12 U =>
 (aO (some (178, 1)) (some [.int .i64 0]) 1 false [(0, (.int .i64 2))]).wp K U (fun bI U =>
 af K 151 [v12, bI] U (ax (fun bS U =>
 (fF .not bS).wp K U (fun bH U =>
 aq bH (
 ak R (.int .i64 4) U) (
 (aj .mul aD true (.int .i64 10) v3).wp K U (fun cA U =>
 (eE true none none v0 v7).wp K U (fun v20 U =>
 (aj .sub aD true v20 (.int .u8 48)).wp K U (fun v21 U =>
 (ua (some .i64) true false false v21).wp K U (fun cm U =>
 (aj .add aD false cA cm).wp K U (fun du U =>
 (sG du (.int .i64 1000001)).wp K U (fun v24 U =>
 (aj .add aD true v7 (.int .i64 1)).wp K U (fun dO U =>
 lp v0 v24 mc dO U) (aa R)) (aa R)) (aa R)) (aa R)) (aa R)) (aa R)) (aa R))) (aa R)) (aa R))) (aa R)) (aa R)) (
 (bz (some true) v0).wp K U (fun v28 U =>
 (aj .gtr aD true v28 (.int .i64 1)).wp K U (fun cC U =>
 ad K (ar cC true) (au.val v0) (fun v31 =>
 ad K (ar cC true) (eE true none none v31 (.int .i64 0)) (fun fG =>
 ad K (ar cC true) (aj .eql aD true fG (.int .u8 48)) (fun dP =>
 (aQ cC dP (.bool false)).wp K U (fun eI U =>
 aq eI (
 ak R (.int .i64 4) U) (
 (aj .gtr aD true v3 (.int .i64 1000000)).wp K U (fun v37 U =>
 aq v37 (
 ak R (.int .i64 3) U) (
 ak R (.int .i64 0) U)) (aa R))) (aa R))))) (aa R)) (aa R))) (aa R)) (aa R)
def QT : Prop :=
 (fh a0).wp K U (fun v1 U =>
 (ag (some 0) v1).wp K U (fun v4 U =>
 (ao aK v4 U).wp K U (fun v5 U =>
 (bz (some false) v5).wp K U (fun v6 U =>
 (aj .gtr aD true v6 (.int .i64 900)).wp K U (fun v7 U =>
 aq v7 (
 ak R (.int .i64 5) U) (
 (ao (some (true, 1)) v1 U).wp K U (fun v9 U =>
 (dj (some [(0, 1)]) (some [.al]) none [(0, v9)]).wp K U (fun v10 U =>
 af K 68 [v10] U (ax (fun v11 U =>
 (fF .not v11).wp K U (fun v12 U =>
 aq v12 (
 ak R (.int .i64 4) U) (
 (ao (some (true, 1)) v1 U).wp K U (fun bS U =>
 af K 69 [bS] U (ax (fun bH U =>
 aq bH (
 ak R (.int .i64 5) U) (
 ak R (.int .i64 0) U)) (aa R))) (aa R))) (aa R)) (aa R))) (aa R)) (aa R))) (aa R)) (aa R)) (aa R)) (aa R)) (aa R)
def QU : Prop :=
 (fh a0).wp K U (fun v1 U =>
 (ag (some 0) v1).wp K U (fun v10 U =>
 (ao aK v10 U).wp K U (fun v11 U =>
 (bz (some false) v11).wp K U (fun bI U =>
 (aj .gtr aD true bI (.int .i64 900)).wp K U (fun bS U =>
 aq bS (
 ak R (.int .i64 5) U) (
 af K 70 [v11] U (ax (fun cG U =>
 (fF .not cG).wp K U (fun cA U =>
 ad K (ar cA false) (au.val v11) (fun cH =>
 ad K (ar cA false) (aF (some (43, 6)) none cH (.int .i64 0)) (fun v20 =>
 ad K (ar cA false) (ag (some 0) v20) (fun v21 =>
 ad K (ar cA false) (ao aK v21 U) (fun cm =>
 ad K (ar cA false) (aj .neq aD true cm (.int .u8 1)) (fun du =>
 (aQ cA (.bool true) du).wp K U (fun v24 U =>
 aq v24 (
 ak R (.int .i64 4) U) (
 cK 2 [v11, (.int .i64 0)] U fun lp v3 v4 U =>
 (bz (some false) v3).wp K U (fun di U =>
 (aj .lss aD false v4 di).wp K U (fun v28 U =>
 aq v28 (
 af K 67 [v3, v4] U (ax (fun dP U =>
 cK 5 [v3, v4, .al, dP, (.int .i64 0)] U fun o4 gE dN v5 v6 v7 U =>
 (bz (some false) v6).wp K U (fun fq U =>
 (aj .lss aD false v7 fq).wp K U (fun v37 U =>
 aq v37 (
 (aF (some (3, 1)) none v6 v7).wp K U (fun oM U =>
 (ao aK oM U).wp K U (fun jf U =>
 (aF (some (43, 6)) none gE jf).wp K U (fun v46 U =>
 (ag (some 0) v46).wp K U (fun ki U =>
 (ao aK ki U).wp K U (fun jg U =>
 (aO (some (5, 1)) (some [.int .u8 0]) 1 false [(0, jg)]).wp K U (fun v49 U =>
 (dM (some (5, 1)) false v5 v49 U).wp K U (fun ku U =>
 (aj .add aD true v7 (.int .i64 1)).wp K U (fun je U =>
 o4 gE dN ku v6 je U) (aa R)) (aa R)) (aa R)) (aa R)) (aa R)) (aa R)) (aa R)) (aa R)) (
 (aj .gtr aD true dN (.int .i64 0)).wp K U (fun kx U =>
 ad K (ar kx true) (au.val gE) (fun kj =>
 ad K (ar kx true) (au.val dN) (fun iI =>
 ad K (ar kx true) (aF (some (43, 6)) none kj iI) (fun l9 =>
 ad K (ar kx true) (ag (some 0) l9) (fun ky =>
 ad K (ar kx true) (ao aK ky U) (fun ni =>
 ad K (ar kx true) (aj .eql aD true ni (.int .u8 1)) (fun v59 =>
 (aQ kx v59 (.bool false)).wp K U (fun rl U =>
 ad K (ar rl false) (au.val gE) (fun tK =>
 ad K (ar rl false) (au.val dN) (fun rm =>
 ad K (ar rl false) (aF (some (43, 6)) none tK rm) (fun mb =>
 ad K (ar rl false) (ao (some (true, 6)) mb U) (fun tL =>
 ad K (ar rl false) (au.enter 71 [tL]) (fun EP =>
 ad K (ar rl false) (fF .not EP) (fun oV =>
 (aQ rl (.bool true) oV).wp K U (fun oN U =>
 ad K (ar oN false) (au.val gE) (fun v70 =>
 ad K (ar oN false) (au.val dN) (fun rn =>
 ad K (ar oN false) (aF (some (43, 6)) none v70 rn) (fun v72 =>
 ad K (ar oN false) (ag (some 0) v72) (fun tM =>
 ad K (ar oN false) (ao aK tM U) (fun rp =>
 ad K (ar oN false) (au.val v5) (fun v75 =>
 ad K (ar oN false) (au.enter 72 [rp, v75]) (fun v76 =>
 ad K (ar oN false) (fF .not v76) (fun rq =>
 (aQ oN (.bool true) rq).wp K U (fun Ak U =>
 aq Ak (
 ak R (.int .i64 4) U) (
 (aj .add aD true dN (.int .i64 1)).wp K U (fun v30 U =>
 lp gE v30 U) (aa R))) (aa R)))))))))) (aa R)))))))) (aa R)))))))) (aa R))) (aa R)) (aa R)) (aa R))) (
 af K 73 [v3] U (ax (fun v80 U =>
 cK 3 [v3, v80, (.int .i64 0)] U fun D6 EO v8 v9 U =>
 (bz (some false) EO).wp K U (fun ET U =>
 (aj .lss aD false v9 ET).wp K U (fun GV U =>
 aq GV (
 (aF (some (3, 1)) none v8 v9).wp K U (fun W9 U =>
 (ao aK W9 U).wp K U (fun EU U =>
 (aj .gtr aD true EU (.int .i64 60)).wp K U (fun v91 U =>
 aq v91 (
 ak R (.int .i64 5) U) (
 (aj .add aD true v9 (.int .i64 1)).wp K U (fun Ny U =>
 D6 EO v8 Ny U) (aa R))) (aa R)) (aa R)) (aa R)) (
 af K 67 [EO, (.int .i64 0)] U (ax (fun v93 U =>
 (bz (some false) v93).wp K U (fun GW U =>
 (aj .gtr aD true GW (.int .i64 24)).wp K U (fun GX U =>
 aq GX (
 ak R (.int .i64 5) U) (
 ak R (.int .i64 0) U)) (aa R)) (aa R)) (aa R)))) (aa R)) (aa R)) (aa R)))) (aa R)) (aa R))) (aa R))))))) (aa R)) (aa R)))) (aa R)) (aa R)) (aa R)) (aa R)) (aa R)
def QV : Prop :=
 (fh a0).wp K U (fun v1 U =>
 (au.cq [.al]).wp K U (fun v2 U =>
 (au.cq [.int .i64 0]).wp K U (fun v3 U =>
 (au.cq [.int .i64 0]).wp K U (fun v4 U =>
 (ao aK v1 U).wp K U (fun bS U =>
 af K 74 [bS] U (ax (fun bH U =>
 (bq bH 0).wp K U (fun cG U =>
 (bq bH 1).wp K U (fun cA U =>
 (aj .neq aD true cA (.int .i64 0)).wp K U (fun cH U =>
 aq cH (
 (aL aK v2 .al U).wp K U (fun _ U =>
 (aL aK v3 cG U).wp K U (fun _ U =>
 (aL aK v4 cA U).wp K U (fun _ U =>
 br aK v2 U fun r0 =>
 br aK v3 U fun r1 =>
 br aK v4 U fun r2 =>
 ak R (.aR [r0, r1, r2]) U) (aa R)) (aa R)) (aa R)) (
 (au.cq [.al]).wp K U (fun v7 U =>
 (ao aK v1 U).wp K U (fun du U =>
 af K 76 [du, (.func (.func 75) [] [v7])] U (ax (fun dO U =>
 tE K 2 dO U (fun dE di q U =>
 q.Gw (fun U =>
 (aj .neq aD true di (.str w_)).wp K U (fun cC U =>
 aq cC (
 q.n U) (
 (ao aK v1 U).wp K U (fun v31 U =>
 (dx true none v31 (some dE) none).wp K U (fun dP U =>
 af K 77 [dP] U (ax (fun eI U =>
 (bq eI 0).wp K U (fun er U =>
 (bq eI 1).wp K U (fun fq U =>
 (au.cq [.int .u8 0, .str [], .int .i64 0]).wp K U (fun v11 U =>
 (aL (some (true, 3)) v11 er U).wp K U (fun _ U =>
 gG 7 (fun kS gE dN nM v9 qo v12 U =>
 (aj .neq aD true v12 (.int .i64 0)).wp K U (fun jf U =>
 aq jf (
 (aL aK kS .al U).wp K U (fun _ U =>
 (aL aK gE v9 U).wp K U (fun _ U =>
 (aL aK dN v12 U).wp K U (fun _ U =>
 q.r U) (fun _ _ => False)) (fun _ _ => False)) (fun _ _ => False)) (
 (ag (some 2) qo).wp K U (fun v49 U =>
 (aL aK v49 v9 U).wp K U (fun _ U =>
 (ao aK nM U).wp K U (fun ku U =>
 (ao (some (true, 3)) qo U).wp K U (fun v51 U =>
 (aO (some (51, 3)) (some [.int .u8 0, .str [], .int .i64 0]) 1 false [(0, v51)]).wp K U (fun kx U =>
 (dM (some (51, 3)) false ku kx U).wp K U (fun v53 U =>
 (aL aK nM v53 U).wp K U (fun _ U =>
 q.n U) (fun _ _ => False)) (fun _ _ => False)) (fun _ _ => False)) (fun _ _ => False)) (fun _ _ => False)) (fun _ _ => False)) (fun _ _ => False))) (fun _ _ => False)) fun j =>
 (aj .eql aD true fq (.int .i64 0)).wp K U (fun eY U =>
 ad K (ar eY true) (ao aK v7 U) (fun v40 =>
 ad K (ar eY true) (bz (some false) v40) (fun gQ =>
 ad K (ar eY true) (aj .eql aD true gQ (.int .i64 900)) (fun iH =>
 (aQ eY iH (.bool false)).wp K U (fun dY U =>
 aq dY (
 j v2 v3 v4 v7 dE v11 (.int .i64 5) U) (
 j v2 v3 v4 v7 dE v11 fq U)) (fun _ _ => False))))) (fun _ _ => False)) (fun _ _ => False)) (fun _ _ => False)) (fun _ _ => False)) (fun _ _ => False)) (fun _ _ => False))) (fun _ _ => False)) (fun _ _ => False))) (fun _ _ => False)) U) (fun U =>
 (ao aK v7 U).wp K U (fun kj U =>
 (aL aK v2 kj U).wp K U (fun _ U =>
 (aL aK v3 (.int .i64 0) U).wp K U (fun _ U =>
 (aL aK v4 (.int .i64 0) U).wp K U (fun _ U =>
 br aK v2 U fun nJ =>
 br aK v3 U fun aa3 =>
 br aK v4 U fun aa6 =>
 ak R (.aR [nJ, aa3, aa6]) U) (aa R)) (aa R)) (aa R)) (aa R)) (fun i U =>
 I7 (Nat.beq i 0) (
 (ao aK v7 U).wp K U (fun YV U =>
 (aL aK v2 YV U).wp K U (fun _ U =>
 (aL aK v3 (.int .i64 0) U).wp K U (fun _ U =>
 (aL aK v4 (.int .i64 0) U).wp K U (fun _ U =>
 br aK v2 U fun o9 =>
 br aK v3 U fun aa4 =>
 br aK v4 U fun aa7 =>
 ak R (.aR [o9, aa4, aa7]) U) (aa R)) (aa R)) (aa R)) (aa R)) (
 False)) (fun U =>
 br aK v2 U fun uN =>
 br aK v3 U fun aa5 =>
 br aK v4 U fun aa8 =>
 ak R (.aR [uN, aa5, aa8]) U) (fun x U => (aa R) x U)) (aa R))) (aa R)) (aa R))) (aa R)) (aa R)) (aa R)) (aa R))) (aa R)) (aa R)) (aa R)) (aa R)) (aa R)
def QW : Prop :=
 (bz (some false) a0).wp K U (fun v7 U =>
 (bz (some false) a1).wp K U (fun v9 U =>
 (aj .neq aD false v7 v9).wp K U (fun v10 U =>
 aq v10 (
 ak R (.bool false) U) (
 cK 3 [a0, a1, (.int .i64 0)] U fun lp v0 v1 v5 U =>
 (bz (some false) v0).wp K U (fun bI U =>
 (aj .lss aD false v5 bI).wp K U (fun bS U =>
 aq bS (
 (fun aG : St =>
 aw K (aF (some (43, 6)) none v0 v5) (fun cH =>
 aw K (ao (some (true, 6)) cH aG) (fun v20 =>
 aw K (aF (some (43, 6)) none v1 v5) (fun du =>
 aw K (ao (some (true, 6)) du aG) (fun v24 =>
 aw K (aj .neq (BT.mk false false false (some [.i, .s, .i, .i, .i, .i]) false) false v20 v24) (fun dO =>
 aq dO (
 ak R (.bool false) U) (
 (aj .add aD true v5 (.int .i64 1)).wp K U (fun cG U =>
 lp v0 v1 cG U) (aa R)))))))) U) (
 ak R (.bool true) U)) (aa R)) (aa R))) (aa R)) (aa R)) (aa R)
def QX : Prop :=
 (bz (some false) a0).wp K U (fun v5 U =>
 (aj .gtr aD true v5 (.int .i64 1000)).wp K U (fun v6 U =>
 aq v6 (
 ak R (.bool false) U) (
 cK 2 [a0, (.int .i64 0)] U fun lp v0 v3 U =>
 (bz (some false) v0).wp K U (fun v9 U =>
 (aj .lss aD false v3 v9).wp K U (fun v10 U =>
 aq v10 (
 (aF (some (43, 6)) none v0 v3).wp K U (fun bH U =>
 (ag (some 1) bH).wp K U (fun cG U =>
 (ao aK cG U).wp K U (fun cA U =>
 (bz (some true) cA).wp K U (fun bZ U =>
 (aj .gtr aD true bZ (.int .i64 100)).wp K U (fun cH U =>
 aq cH (
 ak R (.bool false) U) (
 (aj .add aD true v3 (.int .i64 1)).wp K U (fun v12 U =>
 lp v0 v12 U) (aa R))) (aa R)) (aa R)) (aa R)) (aa R)) (aa R)) (
 ak R (.bool true) U)) (aa R)) (aa R))) (aa R)) (aa R)
def QY : Prop :=
 (fh a0).wp K U (fun v3 U =>
 (fh a1).wp K U (fun v4 U =>
 (fh a2).wp K U (fun v5 U =>
 (au.cq [.al]).wp K U (fun v6 U =>
 (ao (some (true, 1)) v3 U).wp K U (fun v8 U =>
 (ao aK v4 U).wp K U (fun v9 U =>
 af K 87 [v8, v9, (.func (.func 94) [] [v4, v5])] U (ax (fun v11 U =>
 (bq v11 0).wp K U (fun v12 U =>
 (bq v11 1).wp K U (fun bI U =>
 (aL (some (true, 1)) v6 v12 U).wp K U (fun _ U =>
 br (some (true, 1)) v6 U fun r0 =>
 ak R (.aR [r0, bI]) U) (aa R)) (aa R)) (aa R)) (aa R))) (aa R)) (aa R)) (aa R)) (aa R)) (aa R)) (aa R)
def QZ : Prop :=
 (fh a0).wp K U (fun v3 U =>
 (au.cq [.al]).wp K U (fun v6 U =>
 (ao (some (true, 1)) v3 U).wp K U (fun bS U =>
 af K 65 [bS, a1] U (ax (fun cG U =>
 (aj .neq aD true cG (.int .i64 0)).wp K U (fun bZ U =>
 aq bZ (
 (dj (some [(0, 1)]) (some [.al]) none []).wp K U (fun cH U =>
 (aL (some (true, 1)) v6 cH U).wp K U (fun _ U =>
 br (some (true, 1)) v6 U fun r0 =>
 ak R (.aR [r0, cG]) U) (aa R)) (aa R)) (
 (au.cq [.al]).wp K U (fun v9 U =>
 (bz (some false) a2).wp K U (fun cm U =>
 (ag (some 0) v3).wp K U (fun du U =>
 (ao aK du U).wp K U (fun v24 U =>
 (aF (some (43, 6)) none v24 a1).wp K U (fun dE U =>
 (ag (some 5) dE).wp K U (fun di U =>
 (ao aK di U).wp K U (fun v28 U =>
 (aj .sub aD false cm v28).wp K U (fun cC U =>
 cK 7 [a1, a2, v3, v6, v9, cC, (.int .i64 0)] U fun lp v1 v2 gE mc jh v10 v11 U =>
 (aj .lss aD false v11 v1).wp K U (fun fG U =>
 aq fG (
 (ag (some 0) gE).wp K U (fun er U =>
 (ao aK er U).wp K U (fun fq U =>
 (aF (some (43, 6)) none fq v11).wp K U (fun eY U =>
 (ao (some (true, 6)) eY U).wp K U (fun je U =>
 (au.cq [.int .u8 0, .str [], .int .i64 0, .int .i64 0, .int .i64 0, .int .i64 0]).wp K U (fun v12 U =>
 (aL (some (true, 6)) v12 je U).wp K U (fun _ U =>
 gG 8 (fun eN kS EO Bh P5 qn qo CF U =>
 (ag (some 0) P5).wp K U (fun v51 U =>
 (ao aK v51 U).wp K U (fun kx U =>
 (ao (some (true, 6)) CF U).wp K U (fun v53 U =>
 (aO (some (43, 6)) (some [.int .u8 0, .str [], .int .i64 0, .int .i64 0, .int .i64 0, .int .i64 0]) 1 false [(0, v53)]).wp K U (fun kj U =>
 (dM (some (43, 6)) false kx kj U).wp K U (fun iI U =>
 (ag (some 0) P5).wp K U (fun l9 U =>
 (aL aK l9 iI U).wp K U (fun _ U =>
 (aj .add aD true qo (.int .i64 1)).wp K U (fun eI U =>
 lp eN kS EO Bh P5 qn eI U) (aa R)) (aa R)) (aa R)) (aa R)) (aa R)) (aa R)) (aa R)) (aa R)) fun j =>
 (ag (some 5) v12).wp K U (fun gQ U =>
 (ao aK gQ U).wp K U (fun iH U =>
 (aj .add aD false v11 iH).wp K U (fun dY U =>
 (aj .gtr aD false dY v1).wp K U (fun jf U =>
 aq jf (
 (ag (some 5) v12).wp K U (fun v46 U =>
 (ao aK v46 U).wp K U (fun ki U =>
 (aj .add aD false ki v10).wp K U (fun v49 U =>
 (ag (some 5) v12).wp K U (fun ku U =>
 (aL aK ku v49 U).wp K U (fun _ U =>
 j v1 v2 gE mc jh v10 v11 v12 U) (aa R)) (aa R)) (aa R)) (aa R)) (aa R)) (
 j v1 v2 gE mc jh v10 v11 v12 U)) (aa R)) (aa R)) (aa R)) (aa R)) (aa R)) (aa R)) (aa R)) (aa R)) (aa R)) (aa R)) (
 (fun aG : St =>
 aw K (ag (some 0) jh) (fun ky =>
 aw K (ao aK ky aG) (fun ni =>
 aw K (ag (some 0) gE) (fun p8 =>
 aw K (ao aK p8 aG) (fun tK =>
 aw K (ag (some 0) gE) (fun mb =>
 aw K (ao aK mb aG) (fun tL =>
 aw K (aF (some (43, 6)) none tL v1) (fun oV =>
 aw K (ag (some 5) oV) (fun oN =>
 aw K (ao aK oN aG) (fun Aj =>
 aw K (aj .add aD false v1 Aj) (fun v70 =>
 aw K (dx false (some (43, 6)) tK (some v70) none) (fun rn =>
 (dM (some (43, 6)) false ni v2 U).wp K U (fun rl U => cU ((cB oN ++ []) ++ ((cB mb ++ []) ++ ((cB p8 ++ []) ++ ((cB ky ++ []) ++ [])))) aG U /\
 (dM (some (43, 6)) false rl rn U).wp K U (fun v72 U => cU ((cB oN ++ []) ++ ((cB mb ++ []) ++ ((cB p8 ++ []) ++ ((cB ky ++ []) ++ [])))) aG U /\
 aw K (ag (some 0) jh) (fun tM =>
 (aL aK tM v72 U).wp K U (fun _ U =>
 (ao (some (true, 1)) jh U).wp K U (fun rp U =>
 af K 31 [rp] U (ax (fun v75 U =>
 (aj .neq aD true v75 (.int .i64 0)).wp K U (fun rq U =>
 aq rq (
 (dj (some [(0, 1)]) (some [.al]) none []).wp K U (fun Ak U =>
 (aL (some (true, 1)) mc Ak U).wp K U (fun _ U =>
 br (some (true, 1)) mc U fun nJ =>
 ak R (.aR [nJ, v75]) U) (aa R)) (aa R)) (
 (ao (some (true, 1)) jh U).wp K U (fun v80 U =>
 (aL (some (true, 1)) mc v80 U).wp K U (fun _ U =>
 br (some (true, 1)) mc U fun o9 =>
 ak R (.aR [o9, (.int .i64 0)]) U) (aa R)) (aa R))) (aa R)) (aa R))) (aa R)) (aa R))) (aa R)) (aa R))))))))))))) U)) (aa R)) (aa R)) (aa R)) (aa R)) (aa R)) (aa R)) (aa R)) (aa R)) (aa R))) (aa R)) (aa R))) (aa R)) (aa R)) (aa R)
def QO : Prop :=
 (fh a0).wp K U (fun v3 U =>
 (ao (some (true, 1)) v3 U).wp K U (fun v11 U =>
 af K 24 [v11] U (ax (fun v12 U =>
 (fF .not v12).wp K U (fun bI U =>
 ad K (ar bI false) (au.val a2) (fun bH =>
 ad K (ar bI false) (au.enter 49 [bH]) (fun cG =>
 ad K (ar bI false) (fF .not cG) (fun cA =>
 (aQ bI (.bool true) cA).wp K U (fun bZ U =>
 aq bZ (
 af K 17 [] U (ax (fun cH U =>
 ak R cH U) (aa R))) (
 (ao (some (true, 1)) v3 U).wp K U (fun v21 U =>
 af K 26 [v21] U (ax (fun cm U =>
 (dM (some (43, 6)) false .al a2 U).wp K U (fun dO U =>
 af K 50 [cm, a1, dO] U (ax (fun dE U =>
 (bq dE 0).wp K U (fun di U =>
 (bq dE 1).wp K U (fun v28 U =>
 (au.cq [.al]).wp K U (fun v7 U =>
 (aL (some (true, 1)) v7 di U).wp K U (fun _ U =>
 (ao (some (true, 1)) v3 U).wp K U (fun v30 U =>
 af K 51 [v30, a1, a2] U (ax (fun dP U =>
 (bq dP 0).wp K U (fun eI U =>
 (bq dP 1).wp K U (fun er U =>
 (au.cq [.al]).wp K U (fun v9 U =>
 (aL (some (true, 1)) v9 eI U).wp K U (fun _ U =>
 (aj .eql aD false v28 er).wp K U (fun eY U =>
 ad K (ar eY true) (ao (some (true, 1)) v7 U) (fun v40 =>
 ad K (ar eY true) (ao (some (true, 1)) v9 U) (fun gQ =>
 ad K (ar eY true) (au.enter 22 [v40, gQ]) (fun iH =>
 (aQ eY iH (.bool false)).wp K U (fun dY U =>
 ad K (ar dY true) (au.enter 17 []) (fun jf =>
 (aQ dY jf (.bool false)).wp K U (fun v46 U =>
 ak R v46 U) (aa R))) (aa R))))) (aa R)) (aa R)) (aa R)) (aa R)) (aa R)) (aa R))) (aa R)) (aa R)) (aa R)) (aa R)) (aa R)) (aa R))) (aa R)) (aa R))) (aa R))) (aa R))))) (aa R)) (aa R))) (aa R)) (aa R)
def QP : Prop :=
 (fh a0).wp K U (fun v2 U =>
 (fh a1).wp K U (fun v3 U =>
 (ag (some 0) v2).wp K U (fun v5 U =>
 (ao aK v5 U).wp K U (fun v6 U =>
 (ag (some 0) v3).wp K U (fun v7 U =>
 (ao aK v7 U).wp K U (fun v8 U =>
 af K 47 [v6, v8] U (ax (fun v9 U =>
 ak R v9 U) (aa R))) (aa R)) (aa R)) (aa R)) (aa R)) (aa R)) (aa R)
def QR : Prop :=
 (fh a0).wp K U (fun v1 U =>
 (ag (some 0) v1).wp K U (fun v3 U =>
 (ao aK v3 U).wp K U (fun v4 U =>
 af K 49 [v4] U (ax (fun v5 U =>
 ak R v5 U) (aa R))) (aa R)) (aa R)) (aa R)
def QS : Prop :=
 (fh a0).wp K U (fun v1 U =>
 (au.cq [.al]).wp K U (fun v2 U =>
 (ag (some 0) v1).wp K U (fun v3 U =>
 (ao aK v3 U).wp K U (fun v4 U =>
 (dM (some (43, 6)) true .al v4 U).wp K U (fun v5 U =>
 (dj (some [(0, 1)]) (some [.al]) none [(0, v5)]).wp K U (fun v6 U =>
 (aL (some (true, 1)) v2 v6 U).wp K U (fun _ U =>
 br (some (true, 1)) v2 U fun r0 =>
 ak R r0 U) (aa R)) (aa R)) (aa R)) (aa R)) (aa R)) (aa R)) (aa R)
end
section
variable {a0 a1 a2 a3 a4 a5 a6 : AV} {R : cD -> St -> Prop} {U : St}
theorem Pg (h : Q0 a0 R U) : af K 61 [a0] U R := bu Tryz.f61 XB h
theorem Ph (h : Q1 a0 a1 R U) : af K 65 [a0, a1] U R := bu Tryz.f65 XC h
theorem Pj (h : Q2 a0 a1 R U) : af K 67 [a0, a1] U R := bu Tryz.f67 XD h
theorem Pk (h : Q3 a0 R U) : af K 68 [a0] U R := bu Tryz.f68 XE h
theorem Pm (h : Q4 a0 R U) : af K 69 [a0] U R := bu Tryz.f69 XF h
theorem Pn (h : Q5 a0 R U) : af K 70 [a0] U R := bu Tryz.f70 XG h
theorem Po (h : Q6 a0 R U) : af K 71 [a0] U R := bu Tryz.f71 XH h
theorem Pp (h : Q7 a0 a1 R U) : af K 72 [a0, a1] U R := bu Tryz.f72 XI h
theorem Pq (h : Q8 a0 R U) : af K 73 [a0] U R := bu Tryz.f73 XJ h
theorem Pr (h : Q9 a0 R U) : af K 74 [a0] U R := bu Tryz.f74 XK h
theorem Ps (h : Ra a0 a1 R U) : af K 75 [a0, a1] U R := bu Tryz.f75 XL h
theorem Pt (h : Rb a0 a1 R U) : af K 76 [a0, a1] U R := bu Tryz.f76 XM h
theorem Pu (h : Rc a0 R U) : af K 77 [a0] U R := bu Tryz.f77 XN h
theorem Pv (h : Rd a0 a1 R U) : af K 81 [a0, a1] U R := bu Tryz.f81 XO h
theorem Pw (h : Re a0 a1 R U) : af K 85 [a0, a1] U R := bu Tryz.f85 XP h
theorem Px (h : Rf a0 a1 a2 R U) : af K 87 [a0, a1, a2] U R := bu Tryz.f87 XQ h
theorem Py (h : Rh a0 a1 a2 R U) : af K 94 [a0, a1, a2] U R := bu Tryz.f94 XR h
theorem Pz (h : Ri a0 R U) : af K 95 [a0] U R := bu Tryz.f95 XS h
theorem PA (h : YO a0 a1 R U) : af K 99 [a0, a1] U R := bu Tryz.f99 XT h
theorem KL (h : KK a0 a1 R U) : af K 100 [a0, a1] U R := bu Tryz.f100 S0 h
theorem KM (h : Wq a0 R U) : af K 101 [a0] U R := bu Tryz.f101 S5 h
theorem KN (h : Wr a0 a1 R U) : af K 102 [a0, a1] U R := bu Tryz.f102 S6 h
theorem KP (h : KO a0 a1 R U) : af K 103 [a0, a1] U R := bu Tryz.f103 S7 h
theorem KS (h : Ws a0 a1 R U) : af K 105 [a0, a1] U R := bu Tryz.f105 S8 h
theorem Cc (h : Ev a0 a1 a2 R U) : af K 106 [a0, a1, a2] U R := bu Tryz.f106 S9 h
theorem KU (h : KT a0 R U) : af K 109 [a0] U R := bu Tryz.f109 Ta h
theorem KW (h : KV a0 a1 R U) : af K 121 [a0, a1] U R := bu Tryz.f121 Tb h
theorem KY (h : KX a0 a1 a2 R U) : af K 122 [a0, a1, a2] U R := bu Tryz.f122 Tc h
theorem K2 (h : KZ a0 a1 a2 R U) : af K 131 [a0, a1, a2] U R := bu Tryz.f131 Td h
theorem K4 (h : K3 a0 a1 R U) : af K 132 [a0, a1] U R := bu Tryz.f132 Te h
theorem K6 (h : K5 a0 a1 R U) : af K 133 [a0, a1] U R := bu Tryz.f133 Tf h
theorem K8 (h : K7 a0 R U) : af K 134 [a0] U R := bu Tryz.f134 Tg h
theorem La (h : K9 a0 R U) : af K 135 [a0] U R := bu Tryz.f135 Th h
theorem Lc (h : Lb a0 R U) : af K 136 [a0] U R := bu Tryz.f136 Ti h
theorem Lf (h : Ld a0 R U) : af K 137 [a0] U R := bu Tryz.f137 Tj h
theorem Lh (h : Lg a0 R U) : af K 138 [a0] U R := bu Tryz.f138 Tl h
theorem Lj (h : Li a0 R U) : af K 139 [a0] U R := bu Tryz.f139 Tm h
theorem Ll (h : Lk a0 a1 R U) : af K 140 [a0, a1] U R := bu Tryz.f140 Tn h
theorem Ln (h : Lm a0 R U) : af K 141 [a0] U R := bu Tryz.f141 To h
theorem Lp (h : Lo a0 R U) : af K 142 [a0] U R := bu Tryz.f142 Tp h
theorem Lr (h : Lq a0 R U) : af K 143 [a0] U R := bu Tryz.f143 Tq h
theorem Lt (h : Ls a0 R U) : af K 144 [a0] U R := bu Tryz.f144 Tr h
theorem Lv (h : Lu a0 R U) : af K 145 [a0] U R := bu Tryz.f145 Ts h
theorem Lx (h : Lw a0 R U) : af K 146 [a0] U R := bu Tryz.f146 Tt h
theorem Lz (h : Ly a0 a1 a2 R U) : af K 147 [a0, a1, a2] U R := bu Tryz.f147 Tu h
theorem LA (h : Wt a0 a1 R U) : af K 148 [a0, a1] U R := bu Tryz.f148 Tv h
theorem LC (h : LB a0 R U) : af K 149 [a0] U R := bu Tryz.f149 Tw h
theorem LG (h : LF a0 R U) : af K 150 [a0] U R := bu Tryz.f150 Tx h
theorem LH (h : Wu a0 a1 R U) : af K 151 [a0, a1] U R := bu Tryz.f151 Ty h
theorem LJ (h : LI a0 R U) : af K 152 [a0] U R := bu Tryz.f152 Tz h
theorem O9 (h : QT a0 R U) : af K 30 [a0] U R := bu Tryz.f30 Xu h
theorem Pa (h : QU a0 R U) : af K 31 [a0] U R := bu Tryz.f31 Xv h
theorem Pb (h : QV a0 R U) : af K 33 [a0] U R := bu Tryz.f33 Xw h
theorem Pc (h : QW a0 a1 R U) : af K 47 [a0, a1] U R := bu Tryz.f47 Xx h
theorem Pd (h : QX a0 R U) : af K 49 [a0] U R := bu Tryz.f49 Xy h
theorem Pe (h : QY a0 a1 a2 R U) : af K 50 [a0, a1, a2] U R := bu Tryz.f50 Xz h
theorem Pf (h : QZ a0 a1 a2 R U) : af K 51 [a0, a1, a2] U R := bu Tryz.f51 XA h
theorem O5 (h : QO a0 a1 a2 R U) : af K 14 [a0, a1, a2] U R := bu Tryz.f14 Xq h
theorem O6 (h : QP a0 a1 R U) : af K 22 [a0, a1] U R := bu Tryz.f22 Xr h
theorem O7 (h : QR a0 R U) : af K 24 [a0] U R := bu Tryz.f24 Xs h
theorem O8 (h : QS a0 R U) : af K 26 [a0] U R := bu Tryz.f26 Xt h
end
end Go.Rip
