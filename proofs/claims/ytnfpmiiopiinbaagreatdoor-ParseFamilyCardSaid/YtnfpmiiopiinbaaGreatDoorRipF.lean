/- Lemmas for the proof: no conditions. -/
import Derived.Test.YtnfpmiiopiinbaaGreatDoorRipZz
import Derived.Test.YtnfpmiiopiinbaaGreatDoorRipD
set_option linter.unusedVariables false
set_option linter.unusedSimpArgs false
set_option linter.loopingSimpArgs false
set_option maxRecDepth 100000
namespace Go.Rip
open Go.Proofs
def Xc : An := ag (ag .z)
def Xd : An := ag (aL (ag (ag (.cd (ag .z) .z))) (aL (ag (.cd (ag .z) .z)) (ag .z)))
def Xe : An := ag (ag (aL (ag (.bk (.lp [0, 1, 5, 6] (aL (ag (.cd .z .z)) (aL (.bk dj) dj))))) (ag .z)))
def Xf : An := ag (aL (aL (.rg [] [] (some ⟨[(true, 0), (true, 1), (true, 2), (true, 3), (true, 4), (true, 5), (true, 6), (true, 7), (true, 8), (true, 9), (true, 10), (true, 11), (true, 12), (true, 13), (true, 14), (true, 15), (true, 16), (true, 17), (true, 18), (true, 19), (true, 20), (true, 21), (true, 22), (true, 23), (true, 24), (true, 25), (true, 26)], [⟨32, 2, 0⟩, ⟨64, 32, 1⟩, ⟨128, 64, 2⟩, ⟨256, 128, 4⟩, ⟨512, 256, 8⟩, ⟨1024, 512, 16⟩, ⟨2048, 1026, 32⟩, ⟨4096, 3072, 96⟩, ⟨8192, 5120, 160⟩, ⟨16384, 9216, 288⟩, ⟨32768, 17408, 544⟩, ⟨65536, 33792, 1056⟩, ⟨131072, 66560, 2080⟩, ⟨262144, 132096, 4128⟩, ⟨524288, 262144, 8224⟩, ⟨1048576, 524290, 16384⟩, ⟨2097152, 1572864, 49152⟩, ⟨4194304, 2621440, 81920⟩, ⟨8388608, 4718592, 147456⟩, ⟨16777216, 8912896, 278528⟩, ⟨33554432, 17301504, 540672⟩, ⟨67108864, 524290, 16384⟩, ⟨134217728, 67633152, 2113536⟩, ⟨268435456, 134742016, 4210688⟩, ⟨536870912, 268959744, 8404992⟩, ⟨1073741824, 570949632, 17842176⟩, ⟨2147483648, 1074266112, 33570816⟩]⟩)) (.cd (ag .z) .z)) (ag (aL (ag (.bk (.lp [1, 3, 36, 37] (ag (aL (.cd .z .z) (aL (.bk (ag (ag (.cd (ag .z) .z)))) dj)))))) (ag .z))))
def Xg : An := aL (.rg [1, 2] [] none) (aL (.rg [3] [] none) (aL (aL (.rg [7, 8, 9, 10] [] none) (.bk (.lp [1, 2, 3, 8, 9, 10] (aL (.rg [11] [] none) (aL (.cd .z .z) (aL (.bk (aL (.rg [4, 5, 12, 13, 14] [] none) (aL (.rg [3, 15, 16, 17] [] none) (aL (aL (.rg [18, 19, 20] [] none) (.cd (aL (.rg [2] [] none) .z) .z)) (.rg [3, 21, 22, 23, 24, 25, 26, 27] [] none))))) (.rg [10, 28] [] none))))))) (aL (.rg [6] [] none) (aL (aL (.rg [29, 30, 31] [] none) (.bk (.rf .z (.bk (.rg [33, 34] [] none))))) (aL (.rg [2, 35, 36] [] none) .z)))))
def Xh : An := ag (aL (ag (.cd (ag .z) .z)) (aL (ag (.bk (.lp [0, 3] (aL (ag (.cd .z .z)) (aL (.bk (ag (.cd (ag .z) .z))) dj))))) (aL (ag (.bk (.lp [0, 4] (aL (ag (.cd .z .z)) (aL (.bk (ag (aL (.bk (.lp [0, 4, 5] (aL (ag (.cd .z .z)) (.bk dj)))) (ag (.cd (ag .z) .z))))) dj))))) (ag .z))))
def Xi : An := ag (aL (aL (.rg [] [] (some ⟨[(true, 0), (true, 1), (true, 2), (true, 3), (true, 4), (true, 5), (true, 6), (true, 7), (true, 8), (true, 9), (true, 10), (true, 11), (true, 12), (true, 13), (true, 14), (true, 15), (true, 16), (true, 17)], [⟨8, 2, 0⟩, ⟨16, 8, 1⟩, ⟨32, 16, 2⟩, ⟨64, 2, 0⟩, ⟨128, 64, 8⟩, ⟨256, 128, 16⟩, ⟨512, 288, 36⟩, ⟨1024, 512, 68⟩, ⟨2048, 1026, 128⟩, ⟨4096, 3072, 384⟩, ⟨8192, 5120, 640⟩, ⟨16384, 9216, 1152⟩, ⟨32768, 16386, 2048⟩, ⟨65536, 49152, 6144⟩, ⟨131072, 81920, 10240⟩, ⟨262144, 147456, 18432⟩, ⟨524288, 279552, 34944⟩, ⟨1048576, 525312, 65664⟩]⟩)) (.cd (ag .z) .z)) (aL (aL (.rg [] [136, 137] none) (.cd (ag .z) .z)) (aL (.rg [] [137] none) .z)))
def Xj : An := ag (ag (aL (ag (.bk (ag (.cd (ag .z) (.sq (some [1, 5, 8, 13]) (ag (.cd .z dj)) (.cd (aL (.rg [] [139] none) .z) (.sq (some [1, 5, 8, 24]) (ag (.cd .z dj)) (.cd (aL (.rg [] [140, 141, 142] none) .z) (ag (.cd (aL (.rg [] [143] none) .z) (ag (.cd (aL (.rg [] [144] none) .z) (ag (.cd (aL (.rg [] [144] none) .z) (.sq (some [1, 5, 8, 76]) (ag (.cd .z (ag (.cd .z (ag (.cd .z (ag (.cd .z (ag (.cd .z (ag (.cd .z (ag (.cd .z (ag (.cd .z (ag (.cd .z dj)))))))))))))))))) (.cd (aL (.rg [] [144] none) .z) (.sq (some [1, 5, 8, 93]) (ag (.cd .z (ag (.cd .z (ag (.cd .z (ag (.cd .z dj)))))))) (.cd (aL (.rg [] [144] none) .z) (ag (.cd (aL (.rg [] [145] none) .z) (ag (.cd (aL (.rg [] [140, 142] none) .z) (ag (.cd (aL (.rg [] [142] none) .z) (.sq (some [5, 154]) (ag (.cd .z (ag (.cd .z (ag (.cd .z (ag (.cd .z (ag (.cd .z (ag (.cd .z (ag (.cd .z (ag (.cd .z (ag (.cd .z (ag (.cd .z dj)))))))))))))))))))) (.cd (ag .z) .z)))))))))))))))))))))))))) (ag .z)))
def Xk : An := aL (.rg [2] [] none) (aL (.rg [3, 7, 8, 9] [] none) (aL (aL (.rg [4] [] none) (.bk (.lp [0, 3, 4] (aL (aL (.rg [10, 11, 12, 13] [] none) (.cd .z .z)) (aL (.bk (aL (.rg [5, 16, 17, 18] [] none) (aL (.rg [6] [] none) (.bk (.lp [0, 3, 4, 5, 6] (aL (aL (.rg [19, 20, 21, 22] [] none) (.cd .z .z)) (aL (.bk (.rg [25, 26, 27, 28, 29, 30, 31, 32, 33, 34, 35] [] (some ⟨[(true, 0), (true, 1), (true, 2), (true, 3), (true, 4), (true, 5), (true, 6), (true, 7), (true, 8), (true, 9), (true, 10), (false, 11)], [⟨33554432, 8, 0⟩, ⟨67108864, 32, 0⟩, ⟨134217728, 64, 0⟩, ⟨268435456, 201326592, 6⟩, ⟨536870912, 268435456, 8⟩, ⟨1073741824, 8, 0⟩, ⟨2147483648, 16, 0⟩, ⟨4294967296, 3221225472, 96⟩, ⟨8589934592, 4294967296, 128⟩, ⟨17179869184, 8589934592, 256⟩, ⟨34359738368, 570425344, 1023⟩, ⟨0, 51539607552, 2047⟩]⟩))) (.rg [6, 23, 24] [] none)))))))) (.rg [4, 14, 15] [] none)))))) (aL (.rg [2, 36] [] none) .z)))
def Xl : An := ag (aL (ag (.cd (ag .z) .z)) (aL (ag (.bk (.lp [0, 9, 10] (ag (aL (.cd .z .z) (aL (.bk (ag (ag (.cd (ag .z) .z)))) dj)))))) (ag .z)))
def Xm : An := ag (ag .z)
def Xn : An := ag (ag .z)
def Xo : An := ag (ag (aL (.bk (ag (.cd (ag .z) (ag (.cd (ag .z) (ag (.cd (ag .z) (ag (.cd (ag .z) (ag (.cd (ag .z) .z))))))))))) (ag .z)))
def Xp : An := ag (ag (aL (.bk (ag (.cd (ag .z) (ag (.cd (ag .z) .z))))) (aL (ag (ag (.cd (ag (ag .z)) .z))) (ag .z))))
def Xq : An := ag (ag .z)
def Xr : An := ag (ag .z)
def Xs : An := ag (aL (.rg [] [] (some ⟨[(true, 0), (true, 1), (true, 2), (true, 3), (true, 4), (true, 5), (true, 6), (true, 7), (true, 8), (false, 9), (false, 10)], [⟨64, 8, 0⟩, ⟨128, 4, 0⟩, ⟨256, 128, 2⟩, ⟨512, 256, 4⟩, ⟨1024, 8, 0⟩, ⟨2048, 1536, 24⟩, ⟨4096, 2048, 32⟩, ⟨8192, 4096, 64⟩, ⟨16384, 8256, 129⟩, ⟨32, 0, 0⟩, ⟨0, 16416, 1023⟩]⟩)) (ag .z))
def Xt : An := ag (ag (aL (.bk (ag (.cd (ag .z) (ag (.cd (ag .z) .z))))) (aL (ag (ag (.cd (ag (ag .z)) .z))) (ag .z))))
def Xu : An := ag (aL (ag (.cd (ag .z) .z)) (ag .z))
def Xv : An := ag (ag (aL (.bk (.lp [1, 2, 5] (aL (ag (.cd .z .z)) (.bk dj)))) (ag .z)))
def Xw : An := aL (.rg [2] [] none) (aL (aL (.rg [3, 4] [] none) (.cd (aL (.rg [2] [] none) .z) .z)) (aL (.rg [2, 5, 6, 7] [] none) .z))
def Xx : An := ag (ag (aL (.bk (.lp [0, 1, 5] (aL (ag (.cd .z .z)) (.bk dj)))) (ag .z)))
def Xy : An := ag (ag (aL (.bk (ag (.cd (ag .z) (ag (.cd (ag .z) .z))))) (aL (ag (ag (.cd (ag (ag .z)) .z))) (ag .z))))
def Xz : An := ag (aL (.rg [] [] (some ⟨[(true, 0), (true, 1), (true, 2), (true, 3), (true, 4), (true, 5), (true, 6), (true, 7), (true, 8), (true, 9), (true, 10), (true, 11), (true, 12), (true, 13), (false, 14), (true, 15), (true, 16)], [⟨32, 4, 0⟩, ⟨64, 32, 1⟩, ⟨128, 64, 2⟩, ⟨256, 2, 0⟩, ⟨512, 2, 0⟩, ⟨1024, 4, 0⟩, ⟨2048, 1024, 32⟩, ⟨4096, 2048, 64⟩, ⟨8192, 2, 0⟩, ⟨16384, 12288, 384⟩, ⟨32768, 16384, 512⟩, ⟨65536, 32768, 1024⟩, ⟨131072, 66048, 2064⟩, ⟨262144, 131456, 4108⟩, ⟨524288, 262144, 8192⟩, ⟨8, 524288, 32767⟩, ⟨16, 0, 65535⟩]⟩)) .z)
def XA : An := ag (ag .z)
def SA : An := ag (aL (ag (.cd (ag .z) .z)) (ag (ag .z)))
def SB : An := ag (ag .z)
def SC : An := ag (.cd dj .z)
def SD : An := ag (ag (ag .z))
def SE : An := ag (ag .z)
def SF : An := ag (.bk (.lp [0, 1, 2] (aL (ag (.cd .z .z)) (.bk dj))))
def SG : An := ag (ag (ag (ag (.sq (some [3, 4]) (.bk (.lp [0, 3, 4] (aL (ag (.cd .z .z)) (.bk (aL (ag (aL (.rg [] [61] none) (.cd .z .z))) (ag dj)))))) (aL (ag (.cd (ag .z) .z)) (ag .z))))))
def SH : An := ag (aL (.rg [] [178] none) .z)
def SI : An := ag (ag .z)
def SJ : An := ag (ag (ag (aL (aL (.rg [] [122, 208] none) (.cd (ag .z) .z)) (aL (aL (.rg [] [122] none) (.cd (ag .z) .z)) (ag (ag (aL (ag (.bk (.rf dj (.bk (aL (.rg [] [] (some ⟨[(true, 0), (true, 1), (true, 2), (true, 3), (true, 4), (true, 5), (true, 6), (true, 7), (true, 8), (false, 9), (false, 10)], [⟨19807040628566084398385987584, 1024, 0⟩, ⟨39614081257132168796771975168, 8, 0⟩, ⟨79228162514264337593543950336, 39614081257132168796771975168, 2⟩, ⟨158456325028528675187087900672, 79228162514264337593543950336, 4⟩, ⟨316912650057057350374175801344, 4096, 0⟩, ⟨633825300114114700748351602688, 475368975085586025561263702016, 24⟩, ⟨1267650600228229401496703205376, 633825300114114700748351602688, 32⟩, ⟨2535301200456458802993406410752, 1267650600228229401496703205376, 64⟩, ⟨5070602400912917605986812821504, 2535301200456458802993406410752, 128⟩, ⟨10141204801825835211973625643008, 5090409441541483690385198809088, 257⟩, ⟨0, 10141204801825835211973625644032, 1023⟩]⟩)) (aL (aL (.rg [] [] (some ⟨[(true, 0), (true, 1), (true, 2), (true, 3), (true, 4), (true, 5), (true, 6), (true, 7), (true, 8), (true, 9), (true, 10), (true, 11), (true, 12), (true, 13), (true, 14)], [⟨20282409603651670423947251286016, 16, 0⟩, ⟨40564819207303340847894502572032, 128, 0⟩, ⟨81129638414606681695789005144064, 40564819207303340847894502572032, 2⟩, ⟨162259276829213363391578010288128, 101412048018258352119736256430080, 5⟩, ⟨324518553658426726783156020576256, 4096, 0⟩, ⟨649037107316853453566312041152512, 486777830487640090174734030864384, 24⟩, ⟨1298074214633706907132624082305024, 8, 0⟩, ⟨2596148429267413814265248164610048, 1298074214633706907132624082305024, 64⟩, ⟨5192296858534827628530496329220096, 2596148429267413814265248164610048, 128⟩, ⟨10384593717069655257060992658440192, 4096, 0⟩, ⟨20769187434139310514121985316880384, 15576890575604482885591488987660288, 768⟩, ⟨41538374868278621028243970633760768, 20769187434139310514121985316880384, 1024⟩, ⟨83076749736557242056487941267521536, 41538374868278621028243970633760768, 2048⟩, ⟨166153499473114484112975882535043072, 83725786843874095510054253308674048, 4128⟩, ⟨332306998946228968225951765070086144, 166153499473114484112975882535043072, 8192⟩]⟩)) (.cd (ag .z) .z)) dj)))))) (ag .z))))))))
def SK : An := ag (ag (aL (ag (.cd (ag .z) .z)) (aL (ag (.bk (.lp [0, 1, 5, 6] (aL (ag (.cd .z .z)) (.sq (some [0, 1, 5, 6]) (.bk (ag (ag (.cd (ag dj) .z)))) dj))))) (ag (ag .z)))))
def SL : An := ag (ag .z)
def SM : An := ag (aL (ag (.bk (.sq (some [4]) (ag (.cd .z (ag (.cd .z (ag (.cd .z (ag (.cd .z (ag (.cd .z (ag (.cd .z (ag (.cd .z (ag (.cd .z (ag (.cd .z (ag (.cd .z (ag (.cd .z (ag (.cd .z dj)))))))))))))))))))))))) (.cd (ag .z) .z)))) (ag .z))
def SN : An := ag (ag .z)
def SO : An := ag (ag .z)
def SP : An := ag (ag .z)
def SQ : An := ag (aL (ag (.bk (.lp [0, 3] (aL (ag (.cd .z .z)) (aL (.bk (ag (.cd (ag .z) .z))) dj))))) (ag .z))
def SR : An := ag (ag .z)
def SS : An := ag (aL (ag (.bk (.lp [0, 1, 5] (aL (ag (.cd .z .z)) (aL (.bk (ag (.cd (ag .z) .z))) dj))))) (ag .z))
def SU : An := ag (ag .z)
def SV : An := ag (ag .z)
def SW : An := ag (aL (ag (.bk (.lp [0, 3] (aL (ag (.cd .z .z)) (aL (.bk (ag (.cd (ag .z) .z))) dj))))) (ag .z))
def SX : An := ag (aL (ag (.bk (.lp [0, 3] (aL (ag (.cd .z .z)) (aL (.bk (ag (.cd (ag .z) .z))) dj))))) (ag .z))
def SY : An := ag (aL (ag (.bk (.lp [0, 3] (aL (ag (.cd .z .z)) (aL (.bk (ag (.cd (ag .z) .z))) dj))))) (ag .z))
def SZ : An := ag (ag .z)
def S0 : An := ag (.bk (.lp [0, 1, 2, 4] (aL (ag (.cd .z .z)) (.bk (ag (.bk (.sq (some [0, 1, 2, 4, 14, 24]) (ag (.cd .z dj)) (.cd dj (ag (.cd (ag (aL (ag (.cd .z .z)) dj)) (aL (ag (.cd .z .z)) dj)))))))))))
def S5 : An := ag (ag .z)
def S6 : An := ag (aL (.bk (.lp [0, 2] (aL (aL (.rg [] [151] none) (.cd .z .z)) (.bk dj)))) (ag .z))
def S7 : An := ag (aL (ag (.bk (.lp [0, 2, 6, 7] (ag (aL (.cd .z .z) (aL (.bk (ag (ag (.cd (ag .z) .z)))) dj)))))) (aL (aL (.rg [] [214] none) (.cd (ag .z) .z)) (ag .z)))
def S8 : An := ag (ag .z)
def S9 : An := ag (ag (aL (ag (.bk (.lp [0, 3, 6, 7] (ag (aL (.cd .z .z) (aL (.bk (ag (aL (ag (.cd (ag .z) .z)) dj))) dj)))))) (aL (.bk (ag (.cd (ag .z) (ag (.cd (ag .z) .z))))) (ag .z))))
def W0 : An := ag (aL (.bk (ag (.cd (ag .z) (ag (.cd (ag .z) (ag (.cd (ag .z) .z))))))) (ag .z))
def W1 : An := ag (ag (aL (ag (.cd (ag .z) .z)) (aL (ag (.cd (ag .z) .z)) (aL (ag (.bk (.lp [3, 4] (aL (ag (.cd .z .z)) (aL (.bk (ag (ag (aL (ag (.bk (.lp [3, 4, 5, 6, 7] (aL (ag (.cd .z .z)) (aL (.bk dj) dj))))) (aL (.rg [] [71, 72] none) (.cd (ag .z) .z)))))) dj))))) (ag (aL (ag (.bk (.lp [3, 8, 9] (aL (ag (.cd .z .z)) (aL (.bk (ag (.cd (ag .z) .z))) dj))))) (aL (ag (.cd (ag .z) .z)) (ag .z))))))))
def W2 : An := ag (aL (ag (ag (.cd (ag .z) .z))) (ag (ag (aL (ag (.bk (.rf (ag dj) (.bk (aL (ag (.cd .z .z)) (ag (.sq (some [2, 3, 4, 7, 9, 11, 12]) (ag (.cd dj .z)) (aL (ag (.cd (ag .z) .z)) (ag dj))))))))) (ag .z)))))
def W3 : An := ag (ag .z)
def W4 : An := ag (ag .z)
def W5 : An := ag (aL (ag (ag (.cd (ag .z) .z))) (ag .z))
def W6 : An := ag (aL (ag (ag (.cd (ag .z) .z))) (aL (ag (.cd (ag .z) .z)) (ag .z)))
def W7 : An := ag (ag .z)
def W8 : An := ag (aL (ag (ag (.cd (ag .z) .z))) (aL (.rg [] [] (some ⟨[(true, 0), (true, 1), (true, 2), (true, 3), (true, 4), (true, 5), (true, 6), (true, 7), (true, 8), (true, 9), (true, 10), (true, 11), (false, 12), (true, 13), (true, 14)], [⟨8192, 4, 0⟩, ⟨16384, 8192, 1⟩, ⟨32768, 2, 0⟩, ⟨65536, 2, 0⟩, ⟨131072, 4, 0⟩, ⟨262144, 131072, 16⟩, ⟨524288, 2, 0⟩, ⟨1048576, 786432, 96⟩, ⟨2097152, 1048576, 128⟩, ⟨4194304, 2097152, 256⟩, ⟨8388608, 4259840, 520⟩, ⟨16777216, 8437760, 1030⟩, ⟨33554432, 16777216, 2048⟩, ⟨16, 33554432, 8191⟩, ⟨32, 0, 16383⟩]⟩)) .z))
def W9 : An := ag (aL (ag (.cd (ag .z) .z)) (aL (ag (.bk (.lp [0, 1, 5] (aL (ag (.cd .z .z)) (aL (.bk (aL (.rg [] [] (some ⟨[(true, 0), (true, 1), (true, 2), (true, 3), (true, 4), (true, 5), (true, 6), (true, 7), (true, 8)], [⟨131072, 1, 0⟩, ⟨262144, 32, 0⟩, ⟨524288, 393216, 3⟩, ⟨1048576, 524288, 4⟩, ⟨2097152, 2, 0⟩, ⟨4194304, 32, 0⟩, ⟨8388608, 6291456, 48⟩, ⟨16777216, 8388608, 64⟩, ⟨33554432, 17825792, 136⟩]⟩)) (.cd (ag .z) .z))) dj))))) (ag .z)))
def Xa : An := ag (aL (ag (.cd (ag .z) .z)) (aL (ag (.bk (.lp [0, 1, 5] (aL (ag (.cd .z .z)) (aL (.bk (aL (.rg [] [] (some ⟨[(true, 0), (true, 1), (true, 2), (true, 3), (true, 4), (true, 5), (true, 6), (true, 7), (true, 8)], [⟨131072, 1, 0⟩, ⟨262144, 32, 0⟩, ⟨524288, 393216, 3⟩, ⟨1048576, 524288, 4⟩, ⟨2097152, 2, 0⟩, ⟨4194304, 32, 0⟩, ⟨8388608, 6291456, 48⟩, ⟨16777216, 8388608, 64⟩, ⟨33554432, 17825792, 136⟩]⟩)) (.cd (ag .z) .z))) dj))))) (ag .z)))
def Xb : An := ag (aL (ag (.cd (ag .z) .z)) (aL (ag (.bk (.lp [0, 3] (aL (ag (.cd .z .z)) (aL (.bk (ag (.cd (ag .z) .z))) dj))))) (ag .z)))
def WX : An := ag (aL (ag (.cd (ag .z) .z)) (ag (ag (ag (ag (ag (ag (aL (.rg [] [17, 46, 47] none) .z))))))))
def WY : An := ag (ag .z)
def WZ : An := aL (.rg [1, 2] [] none) (aL (.rg [3, 4, 5, 6] [] none) .z)
section
variable (a0 a1 a2 a3 a4 a5 a6 : AV) (R : cB -> St -> Prop) (U : St)
def Qs : Prop :=
 (dZ a0).wp K U (fun v1 U =>
 (ao (some (true, 3)) v1 U).wp K U (fun v3 U =>
 (aM (some (9, 1)) (some [.str []]) 3 false [(0, (.str nr)), (1, (.str uj)), (2, (.str nq))]).wp K U (fun v4 U =>
 af K 121 [v3, v4] U (ar (fun v5 U =>
 aj R v5 U) (aa R))) (aa R)) (aa R)) (aa R)
def Qt : Prop :=
 (dZ a0).wp K U (fun v2 U =>
 (ao (some (true, 1)) v2 U).wp K U (fun v6 U =>
 af K 31 [v6] U (ar (fun v7 U =>
 (ak .neq aC true v7 (.int .i64 0)).wp K U (fun v9 U =>
 al v9 (
 aj R v7 U) (
 (ak .lss aC true a1 (.int .i64 0)).wp K U (fun v12 U =>
 ad K (aq v12 false) (av.val a1) (fun bQ =>
 ad K (aq v12 false) (ah (some 0) v2) (fun bA =>
 ad K (aq v12 false) (ao aK bA U) (fun cx =>
 ad K (aq v12 false) (bw (some false) cx) (fun cg =>
 ad K (aq v12 false) (ak .geq aC false bQ cg) (fun bV =>
 (aP v12 (.bool true) bV).wp K U (fun cw U =>
 al cw (
 aj R (.int .i64 3) U) (
 aj R (.int .i64 0) U)) (aa R))))))) (aa R))) (aa R)) (aa R))) (aa R)) (aa R)
def Qu : Prop :=
 (ak .add aC true a1 (.int .i64 1)).wp K U (fun v8 U =>
 cG 4 [a0, a1, .ax, v8] U fun lp v0 v1 v5 v6 U =>
 (aF (some (43, 6)) none v0 v1).wp K U (fun bD U =>
 (ah (some 5) bD).wp K U (fun bQ U =>
 (ao aK bQ U).wp K U (fun bA U =>
 (ak .add aC false v1 bA).wp K U (fun cx U =>
 (ak .lss aC false v6 cx).wp K U (fun cg U =>
 al cg (
 (aM (some (3, 1)) (some [.int .i64 0]) 1 false [(0, v6)]).wp K U (fun dw U =>
 (eJ (some (3, 1)) false v5 dw U).wp K U (fun v28 U =>
 (aF (some (43, 6)) none v0 v6).wp K U (fun v21 U =>
 (ah (some 5) v21).wp K U (fun ck U =>
 (ao aK ck U).wp K U (fun cR U =>
 (ak .add aC false v6 cR).wp K U (fun v24 U =>
 lp v0 v1 v28 v24 U) (aa R)) (aa R)) (aa R)) (aa R)) (aa R)) (aa R)) (
 aj R v5 U)) (aa R)) (aa R)) (aa R)) (aa R)) (aa R)) (aa R)
def Qv : Prop :=
 (dZ a0).wp K U (fun v1 U =>
 (fun aE : St =>
 az K (ah (some 0) v1) (fun v5 =>
 az K (ah (some 0) v5) (fun v6 =>
 az K (ao aK v6 aE) (fun v7 =>
 az K (bw (some false) v7) (fun v8 =>
 az K (ak .eql aC true v8 (.int .i64 0)) (fun v9 =>
 ad K (aq v9 false) (ah (some 0) v1) (fun v11 =>
 ad K (aq v9 false) (ah (some 0) v11) (fun v12 =>
 ad K (aq v9 false) (ao aK v12 aE) (fun bD =>
 ad K (aq v9 false) (aF (some (43, 6)) none bD (.int .i64 0)) (fun bQ =>
 ad K (aq v9 false) (ah (some 0) bQ) (fun bA =>
 ad K (aq v9 false) (ao aK bA aE) (fun cx =>
 ad K (aq v9 false) (ak .neq aC true cx (.int .u8 1)) (fun cg =>
 az K (aP v9 (.bool true) cg) (fun bV =>
 ad K (aq bV false) (ah (some 0) v1) (fun v20 =>
 ad K (aq bV false) (ah (some 0) v20) (fun v21 =>
 ad K (aq bV false) (ao aK v21 aE) (fun ck =>
 ad K (aq bV false) (aF (some (43, 6)) none ck (.int .i64 0)) (fun cR =>
 ad K (aq bV false) (ah (some 5) cR) (fun v24 =>
 ad K (aq bV false) (ao aK v24 aE) (fun dV =>
 ad K (aq bV false) (ah (some 0) v1) (fun eB =>
 ad K (aq bV false) (ah (some 0) eB) (fun dw =>
 ad K (aq bV false) (ao aK dw aE) (fun v28 =>
 ad K (aq bV false) (bw (some false) v28) (fun ct =>
 ad K (aq bV false) (ak .neq aC false dV ct) (fun v30 =>
 az K (aP bV (.bool true) v30) (fun v31 =>
 al v31 (
 aj R (.bool false) U) (
 af K 130 [] U (ar (fun fG U =>
 (ah (some 0) v1).wp K U (fun dF U =>
 (ah (some 0) dF).wp K U (fun gi U =>
 (ao aK gi U).wp K U (fun eD U =>
 (bw (some false) eD).wp K U (fun fq U =>
 cG 4 [v1, fG, fq, (.int .i64 0)] U fun lp eT v3 oV v37 U =>
 (ak .lss aC false v37 oV).wp K U (fun fV U =>
 al fV (
 (ao (some (true, 1)) eT U).wp K U (fun v40 U =>
 af K 131 [v40, v37, v3] U (ar (fun eI U =>
 (fi .not eI).wp K U (fun nL U =>
 al nL (
 aj R (.bool false) U) (
 (ak .add aC true v37 (.int .i64 1)).wp K U (fun jU U =>
 lp eT v3 oV jU U) (aa R))) (aa R)) (aa R))) (aa R)) (
 aj R (.bool true) U)) (aa R)) (aa R)) (aa R)) (aa R)) (aa R)) (aa R))))))))))))))))))))))))))))) U) (aa R)
def Qw : Prop :=
 (dZ a0).wp K U (fun v1 U =>
 (ah (some 0) v1).wp K U (fun v7 U =>
 (ao aK v7 U).wp K U (fun v8 U =>
 (bw (some false) v8).wp K U (fun v9 U =>
 cG 6 [v1, (.bool false), .ax, v8, v9, (.int .i64 0)] U fun lp eT v2 v3 eW oe v10 U =>
 (ak .lss aC false v10 oe).wp K U (fun v11 U =>
 al v11 (
 (aF (some (43, 6)) none eW v10).wp K U (fun bD U =>
 (ao (some (true, 6)) bD U).wp K U (fun bQ U =>
 (av.c7 [.int .i64 0]).wp K U (fun v4 U =>
 (av.c7 [.int .u8 0, .str [], .int .i64 0, .int .i64 0, .int .i64 0, .int .i64 0]).wp K U (fun v5 U =>
 (aQ aK v4 v10 U).wp K U (fun _ U =>
 (aQ (some (true, 6)) v5 bQ U).wp K U (fun _ U =>
 af K 132 [v3, (.func (.func 133) [] [v4])] U (ar (fun cg U =>
 (bw (some false) cg).wp K U (fun cw U =>
 (ak .gtr aC true cw (.int .i64 60)).wp K U (fun v20 U =>
 al v20 (
 aj R (.bool true) U) (
 (ao aK v4 U).wp K U (fun ck U =>
 (ah (some 5) v5).wp K U (fun cR U =>
 (ao aK cR U).wp K U (fun v24 U =>
 (ak .add aC false ck v24).wp K U (fun dV U =>
 (aM (some (3, 1)) (some [.int .i64 0]) 1 true [(0, dV)]).wp K U (fun eB U =>
 (eJ (some (3, 1)) true cg eB U).wp K U (fun dw U =>
 (ak .add aC true v10 (.int .i64 1)).wp K U (fun v28 U =>
 lp eT v2 dw eW oe v28 U) (aa R)) (aa R)) (aa R)) (aa R)) (aa R)) (aa R)) (aa R))) (aa R)) (aa R)) (aa R))) (aa R)) (aa R)) (aa R)) (aa R)) (aa R)) (aa R)) (
 (av.c7 [.int .i64 0]).wp K U (fun v6 U =>
 (aQ aK v6 (.int .i64 0) U).wp K U (fun _ U =>
 (ao (some (true, 1)) eT U).wp K U (fun ct U =>
 (c6 (some [(0, 1)]) (some [.ax]) none [(0, ct)]).wp K U (fun v30 U =>
 af K 81 [v30, (.int .i64 0)] U (ar (fun v31 U =>
 qG K 1 v31 U (fun fG q U =>
 q.Du (fun U =>
 (ao aK v6 U).wp K U (fun dF U =>
 (ak .add aC true dF (.int .i64 1)).wp K U (fun gi U =>
 (aQ aK v6 gi U).wp K U (fun _ U =>
 q.n U) (fun _ _ => False)) (fun _ _ => False)) (fun _ _ => False)) U) (fun U =>
 (ao aK v6 U).wp K U (fun eD U =>
 (ak .gtr aC true eD (.int .i64 24)).wp K U (fun fq U =>
 aj R fq U) (aa R)) (aa R)) (fun i U =>
 Fk (Nat.beq i 2) (
 (ao aK v6 U).wp K U (fun zA U =>
 (ak .gtr aC true zA (.int .i64 24)).wp K U (fun oV U =>
 aj R oV U) (aa R)) (aa R)) (
 False)) (fun U =>
 aj R v2 U) (fun x U => (aa R) x U)) (aa R))) (aa R)) (aa R)) (aa R)) (aa R))) (aa R)) (aa R)) (aa R)) (aa R)) (aa R)
def Qy : Prop :=
 (bw (some false) a0).wp K U (fun v7 U =>
 (ak .eql aC true v7 (.int .i64 0)).wp K U (fun v8 U =>
 ad K (aq v8 false) (av.val a0) (fun v10 =>
 ad K (aq v8 false) (aF (some (43, 6)) none v10 (.int .i64 0)) (fun v11 =>
 ad K (aq v8 false) (ah (some 5) v11) (fun v12 =>
 ad K (aq v8 false) (ao aK v12 U) (fun bD =>
 ad K (aq v8 false) (av.val a0) (fun bQ =>
 ad K (aq v8 false) (bw (some false) bQ) (fun bA =>
 ad K (aq v8 false) (ak .neq aC false bD bA) (fun cx =>
 (aP v8 (.bool true) cx).wp K U (fun cg U =>
 al cg (
 aj R (.bool false) U) (
 cG 2 [a0, (.int .i64 0)] U fun lp v0 v3 U =>
 (bw (some false) v0).wp K U (fun v20 U =>
 (ak .lss aC false v3 v20).wp K U (fun v21 U =>
 al v21 (
 (aF (some (43, 6)) none v0 v3).wp K U (fun eB U =>
 (ah (some 5) eB).wp K U (fun dw U =>
 (ao aK dw U).wp K U (fun v28 U =>
 (ak .lss aC true v28 (.int .i64 1)).wp K U (fun ct U =>
 ad K (aq ct false) (av.val v0) (fun v31 =>
 ad K (aq ct false) (av.val v3) (fun fG =>
 ad K (aq ct false) (aF (some (43, 6)) none v31 fG) (fun dF =>
 ad K (aq ct false) (ah (some 5) dF) (fun gi =>
 ad K (aq ct false) (ao aK gi U) (fun eD =>
 ad K (aq ct false) (av.val v0) (fun fq =>
 ad K (aq ct false) (bw (some false) fq) (fun v37 =>
 ad K (aq ct false) (av.val v3) (fun fV =>
 ad K (aq ct false) (ak .sub aC false v37 fV) (fun iJ =>
 ad K (aq ct false) (ak .gtr aC false eD iJ) (fun v40 =>
 (aP ct (.bool true) v40).wp K U (fun jE U =>
 al jE (
 aj R (.bool false) U) (
 (ak .add aC true v3 (.int .i64 1)).wp K U (fun cR U =>
 lp v0 cR U) (aa R))) (aa R)))))))))))) (aa R)) (aa R)) (aa R)) (aa R)) (
 cG 2 [v0, (.int .i64 0)] U fun tH mw v4 U =>
 (bw (some false) mw).wp K U (fun nL U =>
 (ak .lss aC false v4 nL).wp K U (fun jU U =>
 al jU (
 (ak .add aC true v4 (.int .i64 1)).wp K U (fun v49 U =>
 cG 3 [mw, v4, v49] U fun Ds sd dW v5 U =>
 (aF (some (43, 6)) none sd dW).wp K U (fun lL U =>
 (ah (some 5) lL).wp K U (fun iX U =>
 (ao aK iX U).wp K U (fun oc U =>
 (ak .add aC false dW oc).wp K U (fun kK U =>
 (ak .lss aC false v5 kK).wp K U (fun mM U =>
 al mM (
 (aF (some (43, 6)) none sd v5).wp K U (fun pz U =>
 (ah (some 5) pz).wp K U (fun qJ U =>
 (ao aK qJ U).wp K U (fun mN U =>
 (ak .add aC false v5 mN).wp K U (fun sW U =>
 Ds sd dW sW U) (aa R)) (aa R)) (aa R)) (aa R)) (
 (aF (some (43, 6)) none sd dW).wp K U (fun v70 U =>
 (ah (some 5) v70).wp K U (fun qL U =>
 (ao aK qL U).wp K U (fun v72 U =>
 (ak .add aC false dW v72).wp K U (fun wa U =>
 (ak .neq aC false v5 wa).wp K U (fun qM U =>
 al qM (
 aj R (.bool false) U) (
 (ak .add aC true dW (.int .i64 1)).wp K U (fun lK U =>
 tH sd lK U) (aa R))) (aa R)) (aa R)) (aa R)) (aa R)) (aa R))) (aa R)) (aa R)) (aa R)) (aa R)) (aa R)) (aa R)) (
 aj R (.bool true) U)) (aa R)) (aa R))) (aa R)) (aa R))) (aa R))))))))) (aa R)) (aa R)
def Qz : Prop :=
 (dZ a0).wp K U (fun v1 U =>
 (fun aE : St =>
 az K (ah (some 0) v1) (fun v3 =>
 az K (ao aK v3 aE) (fun v4 =>
 az K (av.enter 134 [v4]) (fun v5 =>
 az K (ah (some 1) v1) (fun v6 =>
 az K (ao aK v6 aE) (fun v7 =>
 az K (ak .neq aC true v7 (.str w_)) (fun v8 =>
 az K (ak .neq (BT.mk true false false none false) false v5 v8) (fun v9 =>
 ad K (aq v9 false) (ah (some 1) v1) (fun v11 =>
 ad K (aq v9 false) (ao aK v11 aE) (fun v12 =>
 ad K (aq v9 false) (ak .neq aC true v12 (.str w_)) (fun bD =>
 ad K (aq v9 false) (av.val bD) (fun bQ =>
 ad K (aq bQ true) (ah (some 1) v1) (fun bA =>
 ad K (aq bQ true) (ao aK bA aE) (fun cx =>
 ad K (aq bQ true) (av.enter 135 [cx]) (fun cg =>
 ad K (aq bQ true) (fi .not cg) (fun bV =>
 ad K (aq v9 false) (aP bQ bV (.bool false)) (fun cw =>
 az K (aP v9 (.bool true) cw) (fun v20 =>
 al v20 (
 aj R (.bool false) U) (
 (ah (some 0) v1).wp K U (fun v21 U =>
 (ao aK v21 U).wp K U (fun ck U =>
 af K 136 [ck] U (ar (fun cR U =>
 ad K (aq cR true) (ah (some 2) v1) (fun dV =>
 ad K (aq cR true) (ao aK dV U) (fun eB =>
 ad K (aq cR true) (av.enter 137 [eB]) (fun dw =>
 ad K (aq cR true) (fi .not dw) (fun v28 =>
 (aP cR v28 (.bool false)).wp K U (fun ct U =>
 ad K (aq ct false) (ah (some 0) v1) (fun v31 =>
 ad K (aq ct false) (ao aK v31 U) (fun fG =>
 ad K (aq ct false) (av.enter 136 [fG]) (fun dF =>
 ad K (aq ct false) (fi .not dF) (fun gi =>
 ad K (aq ct false) (av.val gi) (fun eD =>
 ad K (aq eD true) (ah (some 2) v1) (fun fq =>
 ad K (aq eD true) (ao aK fq U) (fun v37 =>
 ad K (aq eD true) (ak .neq aC true v37 (.int .i64 0)) (fun fV =>
 ad K (aq ct false) (aP eD fV (.bool false)) (fun iJ =>
 (aP ct (.bool true) iJ).wp K U (fun v40 U =>
 al v40 (
 aj R (.bool false) U) (
 (ah (some 0) v1).wp K U (fun jE U =>
 (ao aK jE U).wp K U (fun jY U =>
 (ak .eql aC true jY (.int .u8 12)).wp K U (fun eI U =>
 ad K (aq eI true) (ah (some 3) v1) (fun jU =>
 ad K (aq eI true) (ao aK jU U) (fun v46 =>
 ad K (aq eI true) (av.enter 137 [v46]) (fun lK =>
 (aP eI lK (.bool false)).wp K U (fun iK U =>
 ad K (aq iK false) (ah (some 0) v1) (fun mc =>
 ad K (aq iK false) (ao aK mc U) (fun v51 =>
 ad K (aq iK false) (ak .neq aC true v51 (.int .u8 12)) (fun jZ =>
 ad K (aq iK false) (av.val jZ) (fun v53 =>
 ad K (aq v53 true) (ah (some 3) v1) (fun lL =>
 ad K (aq v53 true) (ao aK lL U) (fun iX =>
 ad K (aq v53 true) (ak .eql aC true iX (.int .i64 0)) (fun oc =>
 ad K (aq iK false) (aP v53 oc (.bool false)) (fun kK =>
 (aP iK (.bool true) kK).wp K U (fun mM U =>
 aj R mM U) (aa R)))))))))) (aa R))))) (aa R)) (aa R)) (aa R))) (aa R))))))))))) (aa R)))))) (aa R))) (aa R)) (aa R)))))))))))))))))))) U) (aa R)
def QA : Prop :=
 (bw (some false) a1).wp K U (fun v7 U =>
 (ak .eql aC true a0 (.int .u8 1)).wp K U (fun v10 U =>
 al v10 (
 af K 138 [a1] U (ar (fun v12 U =>
 aj R v12 U) (aa R))) (
 iU 4 (fun v1 v5 v8 bD U =>
 al bD (
 (ak .eql aC true v5 (.int .i64 1)).wp K U (fun cg U =>
 ad K (aq cg true) (av.val v1) (fun cw =>
 ad K (aq cg true) (aF (some (5, 1)) none cw (.int .i64 0)) (fun v20 =>
 ad K (aq cg true) (ao aK v20 U) (fun v21 =>
 ad K (aq cg true) (av.enter 139 [v21]) (fun ck =>
 (aP cg ck (.bool false)).wp K U (fun cR U =>
 aj R cR U) (aa R)))))) (aa R)) (
 iU 4 (fun eT jB eW v24 U =>
 al v24 (
 (ak .geq aC true jB (.int .i64 2)).wp K U (fun v28 U =>
 ad K (aq v28 true) (av.val eT) (fun v30 =>
 ad K (aq v28 true) (av.val jB) (fun v31 =>
 ad K (aq v28 true) (ak .sub aC true v31 (.int .i64 2)) (fun fG =>
 ad K (aq v28 true) (dU false (some (5, 1)) v30 none (some fG)) (fun dF =>
 ad K (aq v28 true) (av.enter 140 [dF, (.int .u8 5)]) (fun gi =>
 (aP v28 gi (.bool false)).wp K U (fun eD U =>
 ad K (aq eD true) (av.val eT) (fun v37 =>
 ad K (aq eD true) (av.val jB) (fun fV =>
 ad K (aq eD true) (ak .sub aC true fV (.int .i64 2)) (fun iJ =>
 ad K (aq eD true) (aF (some (5, 1)) none v37 iJ) (fun v40 =>
 ad K (aq eD true) (ao aK v40 U) (fun jE =>
 ad K (aq eD true) (av.enter 141 [jE]) (fun jY =>
 (aP eD jY (.bool false)).wp K U (fun eI U =>
 ad K (aq eI true) (av.val eT) (fun jU =>
 ad K (aq eI true) (av.val jB) (fun v46 =>
 ad K (aq eI true) (ak .sub aC true v46 (.int .i64 1)) (fun lK =>
 ad K (aq eI true) (aF (some (5, 1)) none jU lK) (fun iK =>
 ad K (aq eI true) (ao aK iK U) (fun v49 =>
 ad K (aq eI true) (av.enter 142 [v49]) (fun mc =>
 (aP eI mc (.bool false)).wp K U (fun v51 U =>
 aj R v51 U) (aa R)))))))) (aa R)))))))) (aa R))))))) (aa R)) (
 (ak .eql aC true eW (.int .u8 8)).wp K U (fun v53 U =>
 al v53 (
 (ak .geq aC true jB (.int .i64 2)).wp K U (fun iX U =>
 ad K (aq iX true) (av.val eT) (fun kK =>
 ad K (aq iX true) (av.enter 143 [kK]) (fun mM =>
 (aP iX mM (.bool false)).wp K U (fun v59 U =>
 aj R v59 U) (aa R)))) (aa R)) (
 (ak .eql aC true eW (.int .u8 9)).wp K U (fun uI U =>
 al uI (
 (ak .geq aC true jB (.int .i64 2)).wp K U (fun qJ U =>
 ad K (aq qJ true) (av.val eT) (fun sW =>
 ad K (aq qJ true) (av.enter 144 [sW]) (fun zB =>
 (aP qJ zB (.bool false)).wp K U (fun mO U =>
 aj R mO U) (aa R)))) (aa R)) (
 (ak .eql aC true eW (.int .u8 10)).wp K U (fun zC U =>
 al zC (
 (ak .eql aC true jB (.int .i64 3)).wp K U (fun qL U =>
 ad K (aq qL true) (av.val eT) (fun wa =>
 ad K (aq qL true) (av.enter 144 [wa]) (fun qM =>
 (aP qL qM (.bool false)).wp K U (fun v75 U =>
 aj R v75 U) (aa R)))) (aa R)) (
 iU 4 (fun ui AD sg v76 U =>
 al v76 (
 (ak .eql aC true AD (.int .i64 2)).wp K U (fun MF U =>
 ad K (aq MF true) (av.val ui) (fun zD =>
 ad K (aq MF true) (av.enter 144 [zD]) (fun v91 =>
 (aP MF v91 (.bool false)).wp K U (fun WH U =>
 aj R WH U) (aa R)))) (aa R)) (
 iU 4 (fun se lM od v93 U =>
 al v93 (
 (ak .eql aC true lM (.int .i64 1)).wp K U (fun AB U =>
 ad K (aq AB true) (av.val se) (fun O5 =>
 ad K (aq AB true) (av.enter 144 [O5]) (fun O6 =>
 (aP AB O6 (.bool false)).wp K U (fun O7 U =>
 aj R O7 U) (aa R)))) (aa R)) (
 (ak .eql aC true od (.int .u8 34)).wp K U (fun O8 U =>
 al O8 (
 (ak .geq aC true lM (.int .i64 1)).wp K U (fun O9 U =>
 ad K (aq O9 true) (av.val se) (fun Pa =>
 ad K (aq O9 true) (av.enter 145 [Pa]) (fun Pb =>
 (aP O9 Pb (.bool false)).wp K U (fun Pc U =>
 aj R Pc U) (aa R)))) (aa R)) (
 (ak .eql aC true od (.int .u8 35)).wp K U (fun Pd U =>
 al Pd (
 (ak .geq aC true lM (.int .i64 2)).wp K U (fun vY U =>
 ad K (aq vY true) (av.val se) (fun Pe =>
 ad K (aq vY true) (av.val lM) (fun aa3 =>
 ad K (aq vY true) (ak .sub aC true aa3 (.int .i64 1)) (fun Pf =>
 ad K (aq vY true) (dU false (some (5, 1)) Pe none (some Pf)) (fun Pg =>
 ad K (aq vY true) (av.enter 140 [Pg, (.int .u8 37)]) (fun Ph =>
 (aP vY Ph (.bool false)).wp K U (fun yi U =>
 ad K (aq yi true) (av.val se) (fun Pj =>
 ad K (aq yi true) (av.val lM) (fun Pk =>
 ad K (aq yi true) (ak .sub aC true Pk (.int .i64 1)) (fun v127 =>
 ad K (aq yi true) (aF (some (5, 1)) none Pj v127) (fun Pm =>
 ad K (aq yi true) (ao aK Pm U) (fun Pn =>
 ad K (aq yi true) (av.enter 142 [Pn]) (fun v130 =>
 (aP yi v130 (.bool false)).wp K U (fun v131 U =>
 aj R v131 U) (aa R)))))))) (aa R))))))) (aa R)) (
 (ak .eql aC true od (.int .u8 36)).wp K U (fun vZ U =>
 al vZ (
 (ak .eql aC true lM (.int .i64 3)).wp K U (fun yj U =>
 ad K (aq yj true) (av.val se) (fun Po =>
 ad K (aq yj true) (aF (some (5, 1)) none Po (.int .i64 0)) (fun v138 =>
 ad K (aq yj true) (ao aK v138 U) (fun v139 =>
 ad K (aq yj true) (av.enter 142 [v139]) (fun aa6 =>
 (aP yj aa6 (.bool false)).wp K U (fun v141 U =>
 ad K (aq v141 true) (av.val se) (fun v143 =>
 ad K (aq v141 true) (aF (some (5, 1)) none v143 (.int .i64 1)) (fun aa7 =>
 ad K (aq v141 true) (ao aK aa7 U) (fun v145 =>
 ad K (aq v141 true) (ak .eql aC true v145 (.int .u8 37)) (fun v146 =>
 (aP v141 v146 (.bool false)).wp K U (fun D6 U =>
 ad K (aq D6 true) (av.val se) (fun aa8 =>
 ad K (aq D6 true) (aF (some (5, 1)) none aa8 (.int .i64 2)) (fun aa9 =>
 ad K (aq D6 true) (ao aK aa9 U) (fun aba =>
 ad K (aq D6 true) (av.enter 142 [aba]) (fun v152 =>
 (aP D6 v152 (.bool false)).wp K U (fun abb U =>
 aj R abb U) (aa R)))))) (aa R)))))) (aa R)))))) (aa R)) (
 iU 2 (fun abd v154 U =>
 al v154 (
 (ak .eql aC true abd (.int .i64 0)).wp K U (fun v167 U =>
 aj R v167 U) (aa R)) (
 aj R (.bool false) U)) fun vw =>
 (ak .eql aC true od (.int .u8 6)).wp K U (fun WA U =>
 al WA (
 vw lM WA U) (
 (ak .eql aC true od (.int .u8 7)).wp K U (fun WB U =>
 al WB (
 vw lM WB U) (
 (ak .eql aC true od (.int .u8 26)).wp K U (fun v157 U =>
 al v157 (
 vw lM v157 U) (
 (ak .eql aC true od (.int .u8 27)).wp K U (fun WC U =>
 al WC (
 vw lM WC U) (
 (ak .eql aC true od (.int .u8 28)).wp K U (fun v159 U =>
 al v159 (
 vw lM v159 U) (
 (ak .eql aC true od (.int .u8 29)).wp K U (fun v160 U =>
 al v160 (
 vw lM v160 U) (
 (ak .eql aC true od (.int .u8 30)).wp K U (fun WD U =>
 al WD (
 vw lM WD U) (
 (ak .eql aC true od (.int .u8 31)).wp K U (fun v162 U =>
 al v162 (
 vw lM v162 U) (
 (ak .eql aC true od (.int .u8 32)).wp K U (fun WE U =>
 al WE (
 vw lM WE U) (
 (ak .eql aC true od (.int .u8 33)).wp K U (fun v164 U =>
 al v164 (
 vw lM v164 U) (
 (ak .eql aC true od (.int .u8 37)).wp K U (fun abc U =>
 vw lM abc U) (aa R))) (aa R))) (aa R))) (aa R))) (aa R))) (aa R))) (aa R))) (aa R))) (aa R))) (aa R))) (aa R))) (aa R))) (aa R))) (aa R))) fun Jb =>
 (ak .eql aC true sg (.int .u8 12)).wp K U (fun F7 U =>
 al F7 (
 Jb ui AD sg F7 U) (
 (ak .eql aC true sg (.int .u8 14)).wp K U (fun F8 U =>
 al F8 (
 Jb ui AD sg F8 U) (
 (ak .eql aC true sg (.int .u8 16)).wp K U (fun MH U =>
 al MH (
 Jb ui AD sg MH U) (
 (ak .eql aC true sg (.int .u8 19)).wp K U (fun Q7 U =>
 al Q7 (
 Jb ui AD sg Q7 U) (
 (ak .eql aC true sg (.int .u8 25)).wp K U (fun v98 U =>
 Jb ui AD sg v98 U) (aa R))) (aa R))) (aa R))) (aa R))) (aa R))) fun xj =>
 (ak .eql aC true eW (.int .u8 11)).wp K U (fun oq U =>
 al oq (
 xj eT jB eW oq U) (
 (ak .eql aC true eW (.int .u8 13)).wp K U (fun D7 U =>
 al D7 (
 xj eT jB eW D7 U) (
 (ak .eql aC true eW (.int .u8 15)).wp K U (fun F6 U =>
 al F6 (
 xj eT jB eW F6 U) (
 (ak .eql aC true eW (.int .u8 17)).wp K U (fun v80 U =>
 al v80 (
 xj eT jB eW v80 U) (
 (ak .eql aC true eW (.int .u8 18)).wp K U (fun D8 U =>
 al D8 (
 xj eT jB eW D8 U) (
 (ak .eql aC true eW (.int .u8 20)).wp K U (fun uJ U =>
 al uJ (
 xj eT jB eW uJ U) (
 (ak .eql aC true eW (.int .u8 21)).wp K U (fun D9 U =>
 al D9 (
 xj eT jB eW D9 U) (
 (ak .eql aC true eW (.int .u8 22)).wp K U (fun BD U =>
 al BD (
 xj eT jB eW BD U) (
 (ak .eql aC true eW (.int .u8 23)).wp K U (fun v85 U =>
 al v85 (
 xj eT jB eW v85 U) (
 (ak .eql aC true eW (.int .u8 24)).wp K U (fun Ea U =>
 xj eT jB eW Ea U) (aa R))) (aa R))) (aa R))) (aa R))) (aa R))) (aa R))) (aa R))) (aa R))) (aa R))) (aa R))) (aa R))) (aa R))) (aa R))) fun Ja =>
 (ak .eql aC true v8 (.int .u8 3)).wp K U (fun dV U =>
 al dV (
 Ja v1 v5 v8 dV U) (
 (ak .eql aC true v8 (.int .u8 4)).wp K U (fun eB U =>
 Ja v1 v5 v8 eB U) (aa R))) (aa R))) fun j =>
 (ak .eql aC true a0 (.int .u8 2)).wp K U (fun bQ U =>
 al bQ (
 j a1 v7 a0 bQ U) (
 (ak .eql aC true a0 (.int .u8 5)).wp K U (fun bA U =>
 j a1 v7 a0 bA U) (aa R))) (aa R))) (aa R)) (aa R)
def QB : Prop :=
 (bw (some false) a0).wp K U (fun v8 U =>
 (pG (some (3, 1)) (some [.int .i64 0]) true v8 v8).wp K U (fun v9 U =>
 cG 3 [a0, v9, (.int .i64 0)] U fun lp v0 v3 v4 U =>
 (bw (some false) v0).wp K U (fun v12 U =>
 (ak .lss aC false v4 v12).wp K U (fun bD U =>
 al bD (
 af K 67 [v0, v4] U (ar (fun bV U =>
 cG 5 [v0, v3, v4, bV, (.int .i64 0)] U fun tH mw lJ dW v5 v6 U =>
 (bw (some false) v5).wp K U (fun v21 U =>
 (ak .lss aC false v6 v21).wp K U (fun ck U =>
 al ck (
 (fun aE : St =>
 az K (aF (some (3, 1)) none v5 v6) (fun v28 =>
 az K (ao aK v28 aE) (fun ct =>
 az K (aF (some (3, 1)) none lJ dW) (fun fG =>
 az K (ao aK fG aE) (fun dF =>
 az K (ak .add aC true dF (.int .i64 1)) (fun gi =>
 az K (aF (some (3, 1)) none lJ ct) (fun eD =>
 (aQ aK eD gi U).wp K U (fun _ U =>
 (ak .add aC true v6 (.int .i64 1)).wp K U (fun v24 U =>
 tH mw lJ dW v5 v24 U) (aa R)) (aa R)))))))) U) (
 (ak .add aC true dW (.int .i64 1)).wp K U (fun bA U =>
 lp mw lJ bA U) (aa R))) (aa R)) (aa R)) (aa R))) (
 aj R v3 U)) (aa R)) (aa R)) (aa R)) (aa R)
def QC : Prop :=
 (bw (some true) a0).wp K U (fun v6 U =>
 (ak .gtr aC true v6 (.int .i64 2500)).wp K U (fun v7 U =>
 al v7 (
 aj R (.aO [(.int .i64 0), (.int .i64 5)]) U) (
 (bw (some true) a0).wp K U (fun v9 U =>
 cG 3 [a0, v9, (.int .i64 0)] U fun lp v0 oe v10 U =>
 (ak .lss aC false v10 oe).wp K U (fun v11 U =>
 al v11 (
 (ey true none none v0 v10).wp K U (fun bA U =>
 af K 146 [bA] U (ar (fun cx U =>
 (fi .not cx).wp K U (fun cg U =>
 al cg (
 aj R (.aO [v10, (.int .i64 2)]) U) (
 (ak .add aC true v10 (.int .i64 1)).wp K U (fun cw U =>
 lp v0 oe cw U) (aa R))) (aa R)) (aa R))) (aa R)) (
 aj R (.aO [(.int .i64 0), (.int .i64 0)]) U)) (aa R)) (aa R))) (aa R)) (aa R)
def QD (a0 a1 : AV) (R : cB -> St -> Prop) (U : St) : Prop :=
 (ao aK a1 U).wp K U (fun v4 U =>
 (ao aK a1 U).wp K U (fun v5 U =>
 (bw (some false) v5).wp K U (fun v6 U =>
 (ak .sub aC true v6 (.int .i64 1)).wp K U (fun v7 U =>
 (aF (some (51, 3)) none v4 v7).wp K U (fun v8 U =>
 (ah (some 1) v8).wp K U (fun v9 U =>
 (ao aK v9 U).wp K U (fun v10 U =>
 (bw (some true) v10).wp K U (fun v11 U =>
 aj R v11 U) (aa R)) (aa R)) (aa R)) (aa R)) (aa R)) (aa R)) (aa R)) (aa R)
def QE : Prop :=
 (dZ a0).wp K U (fun v2 U =>
 (dZ a1).wp K U (fun v3 U =>
 aj R (.func (.func 147) [] [v2, v3]) U) (aa R)) (aa R)
def QF : Prop :=
 (av.c7 [.int .u8 0, .str [], .int .i64 0]).wp K U (fun v2 U =>
 af K 149 [a0] U (ar (fun v7 U =>
 (dU true none a0 none (some v7)).wp K U (fun v8 U =>
 (ak .eql aC true v8 (.str w_)).wp K U (fun v11 U =>
 al v11 (
 af K 150 [a0] U (ar (fun bD U =>
 (aT bD 0).wp K U (fun bQ U =>
 (aT bD 1).wp K U (fun bA U =>
 (aQ (some (true, 3)) v2 bQ U).wp K U (fun _ U =>
 bF (some (true, 3)) v2 U fun r0 =>
 aj R (.aO [r0, bA]) U) (aa R)) (aa R)) (aa R)) (aa R))) (
 (ey true none none v8 (.int .i64 0)).wp K U (fun bV U =>
 (aM (some (178, 1)) (some [.int .i64 0]) 1 false [(0, (.int .i64 2))]).wp K U (fun cw U =>
 af K 151 [bV, cw] U (ar (fun v20 U =>
 al v20 (
 (c6 (some [(0, 1), (1, 1), (2, 1)]) (some [.int .u8 0, .str [], .int .i64 0]) none [(0, (.int .u8 2)), (1, v8)]).wp K U (fun ck U =>
 af K 152 [v8] U (ar (fun v24 U =>
 (aQ (some (true, 3)) v2 ck U).wp K U (fun _ U =>
 bF (some (true, 3)) v2 U fun qF =>
 aj R (.aO [qF, v24]) U) (aa R)) (aa R))) (aa R)) (
 (ey true none none v8 (.int .i64 0)).wp K U (fun dw U =>
 (aM (some (178, 1)) (some [.int .i64 0]) 1 false [(0, (.int .i64 3))]).wp K U (fun v28 U =>
 af K 151 [dw, v28] U (ar (fun ct U =>
 (fi .not ct).wp K U (fun v30 U =>
 al v30 (
 (c6 (some [(0, 1), (1, 1), (2, 1)]) (some [.int .u8 0, .str [], .int .i64 0]) none []).wp K U (fun v31 U =>
 (aQ (some (true, 3)) v2 v31 U).wp K U (fun _ U =>
 bF (some (true, 3)) v2 U fun tY =>
 aj R (.aO [tY, (.int .i64 4)]) U) (aa R)) (aa R)) (
 af K 153 [] U (ar (fun dF U =>
 (fx (some (.s, 4)) (some (.bool false)) dF v8 false U).wp K U (fun eD U =>
 al eD (
 (c6 (some [(0, 1), (1, 1), (2, 1)]) (some [.int .u8 0, .str [], .int .i64 0]) none [(0, (.int .u8 3)), (1, v8)]).wp K U (fun v37 U =>
 (aQ (some (true, 3)) v2 v37 U).wp K U (fun _ U =>
 bF (some (true, 3)) v2 U fun x7 =>
 aj R (.aO [x7, (.int .i64 0)]) U) (aa R)) (aa R)) (
 (bw (some true) v8).wp K U (fun v40 U =>
 (ak .gtr aC true v40 (.int .i64 12)).wp K U (fun jE U =>
 al jE (
 (c6 (some [(0, 1), (1, 1), (2, 1)]) (some [.int .u8 0, .str [], .int .i64 0]) none []).wp K U (fun jY U =>
 (aQ (some (true, 3)) v2 jY U).wp K U (fun _ U =>
 bF (some (true, 3)) v2 U fun DJ =>
 aj R (.aO [DJ, (.int .i64 4)]) U) (aa R)) (aa R)) (
 (c6 (some [(0, 1), (1, 1), (2, 1)]) (some [.int .u8 0, .str [], .int .i64 0]) none [(0, (.int .u8 1)), (1, v8)]).wp K U (fun nL U =>
 (aQ (some (true, 3)) v2 nL U).wp K U (fun _ U =>
 bF (some (true, 3)) v2 U fun x8 =>
 aj R (.aO [x8, (.int .i64 0)]) U) (aa R)) (aa R))) (aa R)) (aa R))) (aa R)) (aa R)))) (aa R)) (aa R))) (aa R)) (aa R))) (aa R))) (aa R)) (aa R))) (aa R)) (aa R)) (aa R))) (aa R)
def QG : Prop :=
 (dZ a0).wp K U (fun v3 U =>
 (ao (some (true, 1)) v3 U).wp K U (fun v9 U =>
 af K 30 [v9] U (ar (fun v10 U =>
 (ak .neq aC true v10 (.int .i64 0)).wp K U (fun bD U =>
 al bD (
 aj R (.aO [.ax, v10]) U) (
 (ah (some 0) v3).wp K U (fun cg U =>
 (ao aK cg U).wp K U (fun bV U =>
 (bw (some false) bV).wp K U (fun cw U =>
 (ak .sub aC true cw (.int .i64 1)).wp K U (fun v20 U =>
 af K 122 [(.int .i64 0), v20, a1] U (ar (fun ck U =>
 (fi .not ck).wp K U (fun cR U =>
 al cR (
 aj R (.aO [.ax, (.int .i64 3)]) U) (
 (ao (some (true, 1)) v3 U).wp K U (fun dw U =>
 (c6 (some [(0, 1)]) (some [.ax]) none [(0, dw)]).wp K U (fun v28 U =>
 (fM K.P a2 [v28]).wp K U (fun ct U =>
 (aT ct 0).wp K U (fun v30 U =>
 (aT ct 1).wp K U (fun v31 U =>
 (ak .neq aC true v31 (.int .i64 0)).wp K U (fun dF U =>
 al dF (
 aj R (.aO [.ax, v31]) U) (
 aj R (.aO [v30, (.int .i64 0)]) U)) (aa R)) (aa R)) (aa R)) (aa R)) (aa R)) (aa R))) (aa R)) (aa R))) (aa R)) (aa R)) (aa R)) (aa R))) (aa R)) (aa R))) (aa R)) (aa R)
def QH : Prop :=
 (dZ a0).wp K U (fun v2 U =>
 (ao (some (true, 1)) v2 U).wp K U (fun v5 U =>
 (ao aK a1 U).wp K U (fun v6 U =>
 af K 81 [v5, v6] U (ar (fun v7 U =>
 af K 80 [v7] U (ar (fun v8 U =>
 aj R (.aO [v8, (.int .i64 0)]) U) (aa R))) (aa R))) (aa R)) (aa R)) (aa R)
def QI : Prop :=
 af K 154 [.ax, a0] U (ar (fun v4 U =>
 aj R v4 U) (aa R))
def QJ : Prop :=
 (dZ a0).wp K U (fun v2 U =>
 (dZ a1).wp K U (fun v3 U =>
 (fun aE : St =>
 az K (ao aK v3 aE) (fun v6 =>
 az K (ah (some 0) v2) (fun v7 =>
 az K (ah (some 0) v7) (fun v8 =>
 az K (ao aK v8 aE) (fun v9 =>
 az K (ao aK v3 aE) (fun v10 =>
 az K (aF (some (43, 6)) none v9 v10) (fun v11 =>
 az K (ah (some 5) v11) (fun v12 =>
 az K (ao aK v12 aE) (fun bD =>
 az K (ak .add aC false v6 bD) (fun bQ =>
 (av.c7 [.int .i64 0]).wp K U (fun v5 U => cU ((cT v12 ++ []) ++ ((cT v3 ++ []) ++ ((cT v8 ++ []) ++ ((cT v3 ++ []) ++ [])))) aE U /\
 (aQ aK v5 bQ U).wp K U (fun _ U =>
 aj R (.func (.func 155) [] [v3, v5, v2]) U) (aa R)) (aa R))))))))))) U) (aa R)) (aa R)
def QK : Prop :=
 (dZ a0).wp K U (fun v3 U =>
 (ao (some (true, 1)) v3 U).wp K U (fun v9 U =>
 af K 30 [v9] U (ar (fun v10 U =>
 (ak .neq aC true v10 (.int .i64 0)).wp K U (fun bD U =>
 al bD (
 aj R (.aO [(.int .i64 0), v10]) U) (
 (ah (some 0) v3).wp K U (fun cg U =>
 (ao aK cg U).wp K U (fun bV U =>
 (bw (some false) bV).wp K U (fun cw U =>
 (ak .sub aC true cw (.int .i64 1)).wp K U (fun v20 U =>
 af K 122 [(.int .i64 0), v20, a1] U (ar (fun ck U =>
 (fi .not ck).wp K U (fun cR U =>
 al cR (
 aj R (.aO [(.int .i64 0), (.int .i64 3)]) U) (
 (ao (some (true, 1)) v3 U).wp K U (fun dw U =>
 (c6 (some [(0, 1)]) (some [.ax]) none [(0, dw)]).wp K U (fun v28 U =>
 (fM K.P a2 [v28]).wp K U (fun ct U =>
 (aT ct 0).wp K U (fun v30 U =>
 (aT ct 1).wp K U (fun v31 U =>
 (ak .neq aC true v31 (.int .i64 0)).wp K U (fun dF U =>
 al dF (
 aj R (.aO [(.int .i64 0), v31]) U) (
 aj R (.aO [v30, (.int .i64 0)]) U)) (aa R)) (aa R)) (aa R)) (aa R)) (aa R)) (aa R))) (aa R)) (aa R))) (aa R)) (aa R)) (aa R)) (aa R))) (aa R)) (aa R))) (aa R)) (aa R)
def QL : Prop :=
 (dZ a0).wp K U (fun v2 U =>
 (ao aK a1 U).wp K U (fun v5 U =>
 (ak .eql aC true v5 (.int .i64 0)).wp K U (fun v6 U =>
 al v6 (
 aj R (.aO [(.int .i64 0), (.int .i64 7)]) U) (
 (ao (some (true, 1)) v2 U).wp K U (fun v7 U =>
 (ao aK a1 U).wp K U (fun v8 U =>
 af K 85 [v7, v8] U (ar (fun v9 U =>
 aj R (.aO [v9, (.int .i64 0)]) U) (aa R))) (aa R)) (aa R))) (aa R)) (aa R)) (aa R)
def QM : Prop :=
 (dZ a0).wp K U (fun v2 U =>
 (ak .sub aC true a1 (.int .i64 1)).wp K U (fun v7 U =>
 cG 3 [a1, v2, v7] U fun lp v1 lI v5 U =>
 (ah (some 0) lI).wp K U (fun v9 U =>
 (ah (some 0) v9).wp K U (fun v10 U =>
 (ao aK v10 U).wp K U (fun v11 U =>
 (aF (some (43, 6)) none v11 v5).wp K U (fun bD U =>
 (ah (some 5) bD).wp K U (fun bQ U =>
 (ao aK bQ U).wp K U (fun bA U =>
 (ak .add aC false v5 bA).wp K U (fun cx U =>
 (ak .leq aC false cx v1).wp K U (fun bV U =>
 al bV (
 (ak .sub aC true v5 (.int .i64 1)).wp K U (fun v20 U =>
 lp v1 lI v20 U) (aa R)) (
 aj R v5 U)) (aa R)) (aa R)) (aa R)) (aa R)) (aa R)) (aa R)) (aa R)) (aa R)) (aa R)) (aa R)
def QN : Prop :=
 (ak .eql (BT.mk false false false none true) true a0 .ax).wp K U (fun v4 U =>
 al v4 (
 aj R .ax U) (
 (aM (some (43, 6)) (some [.int .u8 0, .str [], .int .i64 0, .int .i64 0, .int .i64 0, .int .i64 0]) 0 true []).wp K U (fun v5 U =>
 (eJ (some (43, 6)) true v5 a0 U).wp K U (fun v7 U =>
 aj R v7 U) (aa R)) (aa R))) (aa R)
def QO : Prop :=
 (ak .sub aC true a1 (.int .i64 1)).wp K U (fun v7 U =>
 cG 3 [a0, a1, v7] U fun lp v0 v1 v5 U =>
 (aF (some (43, 6)) none v0 v5).wp K U (fun v11 U =>
 (ah (some 5) v11).wp K U (fun v12 U =>
 (ao aK v12 U).wp K U (fun bD U =>
 (ak .add aC false v5 bD).wp K U (fun bQ U =>
 (ak .leq aC false bQ v1).wp K U (fun cx U =>
 al cx (
 (ak .sub aC true v5 (.int .i64 1)).wp K U (fun bV U =>
 lp v0 v1 bV U) (aa R)) (
 aj R v5 U)) (aa R)) (aa R)) (aa R)) (aa R)) (aa R)) (aa R)
def QP : Prop :=
 (dZ a0).wp K U (fun v3 U =>
 (ao (some (true, 1)) v3 U).wp K U (fun v9 U =>
 af K 30 [v9] U (ar (fun v10 U =>
 (ak .neq aC true v10 (.int .i64 0)).wp K U (fun bD U =>
 al bD (
 aj R (.aO [.ax, v10]) U) (
 (ah (some 0) v3).wp K U (fun cg U =>
 (ao aK cg U).wp K U (fun bV U =>
 (bw (some false) bV).wp K U (fun cw U =>
 (ak .sub aC true cw (.int .i64 1)).wp K U (fun v20 U =>
 af K 122 [(.int .i64 0), v20, a1] U (ar (fun ck U =>
 (fi .not ck).wp K U (fun cR U =>
 al cR (
 aj R (.aO [.ax, (.int .i64 3)]) U) (
 (ao (some (true, 1)) v3 U).wp K U (fun dw U =>
 (c6 (some [(0, 1)]) (some [.ax]) none [(0, dw)]).wp K U (fun v28 U =>
 (fM K.P a2 [v28]).wp K U (fun ct U =>
 (aT ct 0).wp K U (fun v30 U =>
 (aT ct 1).wp K U (fun v31 U =>
 (ak .neq aC true v31 (.int .i64 0)).wp K U (fun dF U =>
 al dF (
 aj R (.aO [.ax, v31]) U) (
 aj R (.aO [v30, (.int .i64 0)]) U)) (aa R)) (aa R)) (aa R)) (aa R)) (aa R)) (aa R))) (aa R)) (aa R))) (aa R)) (aa R)) (aa R)) (aa R))) (aa R)) (aa R))) (aa R)) (aa R)
def QR : Prop :=
 (dZ a0).wp K U (fun v2 U =>
 (fun aE : St =>
 az K (ah (some 0) v2) (fun v5 =>
 az K (ah (some 0) v5) (fun v6 =>
 az K (ao aK v6 aE) (fun v7 =>
 az K (ao aK a1 aE) (fun v8 =>
 az K (ao aK a1 aE) (fun v9 =>
 az K (ah (some 0) v2) (fun v10 =>
 az K (ah (some 0) v10) (fun v11 =>
 az K (ao aK v11 aE) (fun v12 =>
 az K (ao aK a1 aE) (fun bD =>
 az K (aF (some (43, 6)) none v12 bD) (fun bQ =>
 az K (ah (some 5) bQ) (fun bA =>
 az K (ao aK bA aE) (fun cx =>
 az K (ak .add aC false v9 cx) (fun cg =>
 az K (dU false (some (43, 6)) v7 (some v8) (some cg)) (fun bV =>
 af K 89 [bV] U (ar (fun cw U => cU ((cT bA ++ []) ++ ((cT a1 ++ []) ++ ((cT v11 ++ []) ++ ((cT a1 ++ []) ++ ((cT a1 ++ []) ++ ((cT v6 ++ []) ++ [])))))) aE U /\
 aj R (.aO [cw, (.int .i64 0)]) U) (aa R))))))))))))))))) U) (aa R)
def Yu : Prop :=
 af K 164 [a0] U (ar (fun v7 U =>
 (c6 (some [(0, 1), (1, 1), (2, 1), (3, 1), (4, 1), (5, 1)]) (some [.int .u8 0, .str [], .int .i64 0, .int .i64 0, .int .i64 0, .int .i64 0]) none [(0, a1), (4, v7)]).wp K U (fun v8 U =>
 (c6 (some [(0, 6), (6, 1)]) (some [.int .u8 0, .str [], .int .i64 0, .int .i64 0, .int .i64 0, .int .i64 0, .ax]) none [(0, v8)]).wp K U (fun v9 U =>
 (dZ v9).wp K U (fun v10 U =>
 aj R v10 U) (aa R)) (aa R)) (aa R)) (aa R))
def JU : Prop :=
 (aM (some (9, 1)) (some [.str []]) 1 false [(0, a1)]).wp K U (fun v7 U =>
 af K 105 [a0, v7] U (ar (fun v8 U =>
 (fi .not v8).wp K U (fun v9 U =>
 al v9 (
 aj R (.bool false) U) (
 (bz a0).wp K U (fun v11 U =>
 (ah (some 1) v11).wp K U (fun v12 U =>
 (ao aK v12 U).wp K U (fun bD U =>
 (ak .add aC true bD (.int .i64 1)).wp K U (fun bQ U =>
 (bz a0).wp K U (fun bA U =>
 (ah (some 1) bA).wp K U (fun cx U =>
 (aQ aK cx bQ U).wp K U (fun _ U =>
 aj R (.bool true) U) (aa R)) (aa R)) (aa R)) (aa R)) (aa R)) (aa R)) (aa R))) (aa R)) (aa R))) (aa R)
def VT : Prop :=
 af K 165 [a0, (.int .u8 1)] U (ar (fun v4 U =>
 aj R v4 U) (aa R))
def VU : Prop :=
 af K 100 [a0, a1] U (ar (fun v6 U =>
 (fi .not v6).wp K U (fun v7 U =>
 al v7 (
 af K 166 [a0] U (ar (fun v9 U =>
 aj R (.aO []) U) (aa R))) (
 aj R (.aO []) U)) (aa R)) (aa R))
def JY : Prop :=
 (bz a0).wp K U (fun v7 U =>
 (ah (some 6) v7).wp K U (fun v8 U =>
 (ao aK v8 U).wp K U (fun v9 U =>
 (eJ (some (87, 1)) false v9 a1 U).wp K U (fun v11 U =>
 (bz a0).wp K U (fun v12 U =>
 (ah (some 6) v12).wp K U (fun bD U =>
 (aQ aK bD v11 U).wp K U (fun _ U =>
 aj R a0 U) (aa R)) (aa R)) (aa R)) (aa R)) (aa R)) (aa R)) (aa R)
def VV : Prop :=
 af K 167 [a0, (.int .i64 0)] U (ar (fun v6 U =>
 af K 121 [v6, a1] U (ar (fun v8 U =>
 aj R v8 U) (aa R))) (aa R))
def DR : Prop :=
 (fM K.P a2 []).wp K U (fun v8 U =>
 (aM (some (87, 1)) (some [.a7]) 1 false [(0, v8)]).wp K U (fun v9 U =>
 af K 103 [a1, v9] U (ar (fun v10 U =>
 cG 3 [a0, a1, a2] U fun lp v0 v1 v2 U =>
 af K 100 [v0, (.str wJ)] U (ar (fun v12 U =>
 al v12 (
 (fM K.P v2 []).wp K U (fun bA U =>
 (aM (some (87, 1)) (some [.a7]) 1 false [(0, bA)]).wp K U (fun cx U =>
 af K 103 [v1, cx] U (ar (fun cg U =>
 lp v0 v1 v2 U) (aa R))) (aa R)) (aa R)) (
 aj R (.aO []) U)) (aa R))) (aa R))) (aa R)) (aa R)
def J1 : Prop :=
 af K 169 [a0] U (ar (fun v7 U =>
 af K 99 [a0, (.int .u8 9)] U (ar (fun v9 U =>
 (aM (some (87, 1)) (some [.a7]) 1 false [(0, v7)]).wp K U (fun v12 U =>
 af K 103 [v9, v12] U (ar (fun bD U =>
 iU 2 (fun v3 v4 U =>
 (bz v4).wp K U (fun gi U =>
 (ah (some 6) gi).wp K U (fun eD U =>
 (ao aK eD U).wp K U (fun fq U =>
 (bw (some false) fq).wp K U (fun v37 U =>
 (ak .eql aC true v37 (.int .i64 1)).wp K U (fun fV U =>
 al fV (
 aj R v3 U) (
 aj R v4 U)) (aa R)) (aa R)) (aa R)) (aa R)) (aa R)) fun j =>
 cG 3 [a0, v7, v9] U fun lp v0 lJ dW U =>
 (aM (some (9, 1)) (some [.str []]) 1 false [(0, (.str rC))]).wp K U (fun bA U =>
 af K 105 [v0, bA] U (ar (fun cx U =>
 al cx (
 af K 167 [v0, (.int .i64 1)] U (ar (fun bV U =>
 (av.c7 [.int .u8 0, .str [], .int .i64 0]).wp K U (fun v5 U =>
 (aQ (some (true, 3)) v5 bV U).wp K U (fun _ U =>
 (ah (some 0) v5).wp K U (fun cw U =>
 (ao aK cw U).wp K U (fun v20 U =>
 (ak .eql aC true v20 (.int .u8 0)).wp K U (fun v21 U =>
 ad K (aq v21 false) (ao (some (true, 3)) v5 U) (fun cR =>
 ad K (aq v21 false) (av.enter 61 [cR]) (fun v24 =>
 (aP v21 (.bool true) v24).wp K U (fun dV U =>
 al dV (
 j lJ dW U) (
 af K 102 [v0, (.str rC)] U (ar (fun dw U =>
 af K 169 [v0] U (ar (fun v30 U =>
 (aM (some (87, 1)) (some [.a7]) 1 false [(0, v30)]).wp K U (fun v31 U =>
 af K 103 [dW, v31] U (ar (fun fG U =>
 lp v0 lJ dW U) (aa R))) (aa R)) (aa R))) (aa R)))) (aa R)))) (aa R)) (aa R)) (aa R)) (aa R)) (aa R)) (aa R))) (
 j lJ dW U)) (aa R))) (aa R)) (aa R))) (aa R)) (aa R))) (aa R))
def J3 : Prop :=
 (dZ a0).wp K U (fun v2 U =>
 (ah (some 0) v2).wp K U (fun v5 U =>
 (ao aK v5 U).wp K U (fun v6 U =>
 (ak .eql aC true v6 (.int .u8 3)).wp K U (fun v7 U =>
 ad K (aq v7 false) (ah (some 0) v2) (fun v9 =>
 ad K (aq v7 false) (ao aK v9 U) (fun v10 =>
 ad K (aq v7 false) (ak .eql aC true v10 (.int .u8 4)) (fun v11 =>
 (aP v7 (.bool true) v11).wp K U (fun v12 U =>
 ad K (aq v12 true) (av.val a1) (fun bQ =>
 ad K (aq v12 true) (ah (some 1) v2) (fun bA =>
 ad K (aq v12 true) (ao aK bA U) (fun cx =>
 ad K (aq v12 true) (av.enter 178 [bQ, cx]) (fun cg =>
 (aP v12 cg (.bool false)).wp K U (fun bV U =>
 aj R bV U) (aa R)))))) (aa R))))) (aa R)) (aa R)) (aa R)) (aa R)
def J5 : Prop :=
 (ak .geq aC false a2 a0).wp K U (fun v9 U =>
 ad K (aq v9 true) (av.val a2) (fun v11 =>
 ad K (aq v9 true) (av.val a1) (fun v12 =>
 ad K (aq v9 true) (ak .leq aC false v11 v12) (fun bD =>
 (aP v9 bD (.bool false)).wp K U (fun bQ U =>
 aj R bQ U) (aa R))))) (aa R)
def J7 : Prop :=
 (dZ a0).wp K U (fun v3 U =>
 (dZ a1).wp K U (fun v4 U =>
 (av.c7 [.bool false]).wp K U (fun v6 U =>
 (ah (some 0) v3).wp K U (fun bD U =>
 (ah (some 0) bD).wp K U (fun bQ U =>
 (ao aK bQ U).wp K U (fun bA U =>
 (ao aK v4 U).wp K U (fun cx U =>
 (aF (some (43, 6)) none bA cx).wp K U (fun cg U =>
 (ao (some (true, 6)) cg U).wp K U (fun bV U =>
 (av.c7 [.int .u8 0, .str [], .int .i64 0, .int .i64 0, .int .i64 0, .int .i64 0]).wp K U (fun v7 U =>
 (aQ (some (true, 6)) v7 bV U).wp K U (fun _ U =>
 (ah (some 0) v7).wp K U (fun v21 U =>
 (ao aK v21 U).wp K U (fun ck U =>
 (fx (some (.i, 204)) (some (.agg [.bool false, .bool false, .bool false, .ax])) a2 ck true U).wp K U (fun cR U =>
 (aT cR 0).wp K U (fun v24 U =>
 (aT cR 1).wp K U (fun dV U =>
 (av.c7 [.bool false, .bool false, .bool false, .ax]).wp K U (fun v8 U =>
 (aQ (some (true, 4)) v8 v24 U).wp K U (fun _ U =>
 (fi .not dV).wp K U (fun dw U =>
 ad K (aq dw false) (ah (some 0) v3) (fun ct =>
 ad K (aq dw false) (ah (some 0) ct) (fun v30 =>
 ad K (aq dw false) (ao aK v30 U) (fun v31 =>
 ad K (aq dw false) (bw (some false) v31) (fun fG =>
 ad K (aq dw false) (ao aK v4 U) (fun dF =>
 ad K (aq dw false) (ak .sub aC false fG dF) (fun gi =>
 ad K (aq dw false) (ah (some 5) v7) (fun eD =>
 ad K (aq dw false) (ao aK eD U) (fun fq =>
 ad K (aq dw false) (av.enter 122 [(.int .i64 1), gi, fq]) (fun v37 =>
 ad K (aq dw false) (fi .not v37) (fun fV =>
 (aP dw (.bool true) fV).wp K U (fun iJ U =>
 ad K (aq iJ false) (ah (some 0) v8) (fun jE =>
 ad K (aq iJ false) (ao aK jE U) (fun jY =>
 ad K (aq iJ false) (ah (some 1) v7) (fun eI =>
 ad K (aq iJ false) (ao aK eI U) (fun nL =>
 ad K (aq iJ false) (ak .neq aC true nL (.str w_)) (fun jU =>
 ad K (aq iJ false) (ak .neq (BT.mk true false false none false) false jY jU) (fun v46 =>
 (aP iJ (.bool true) v46).wp K U (fun lK U =>
 ad K (aq lK false) (ah (some 0) v8) (fun v49 =>
 ad K (aq lK false) (ao aK v49 U) (fun mc =>
 ad K (aq lK false) (av.val mc) (fun v51 =>
 ad K (aq v51 true) (ah (some 1) v7) (fun jZ =>
 ad K (aq v51 true) (ao aK jZ U) (fun v53 =>
 ad K (aq v51 true) (av.enter 208 [v53]) (fun lL =>
 ad K (aq v51 true) (fi .not lL) (fun iX =>
 ad K (aq lK false) (aP v51 iX (.bool false)) (fun oc =>
 (aP lK (.bool true) oc).wp K U (fun kK U =>
 al kK (
 (aQ aK v6 (.bool false) U).wp K U (fun _ U =>
 bF aK v6 U fun r0 =>
 aj R r0 U) (aa R)) (
 (ah (some 2) v7).wp K U (fun mM U =>
 (ao aK mM U).wp K U (fun v59 U =>
 af K 122 [(.int .i64 0), (.int .i64 1000000), v59] U (ar (fun sV U =>
 (fi .not sV).wp K U (fun uI U =>
 ad K (aq uI false) (ah (some 3) v7) (fun qJ =>
 ad K (aq uI false) (ao aK qJ U) (fun mN =>
 ad K (aq uI false) (av.enter 122 [(.int .i64 0), (.int .i64 1000000), mN]) (fun sW =>
 ad K (aq uI false) (fi .not sW) (fun zB =>
 (aP uI (.bool true) zB).wp K U (fun mO U =>
 ad K (aq mO false) (ah (some 1) v8) (fun zC =>
 ad K (aq mO false) (ao aK zC U) (fun v70 =>
 ad K (aq mO false) (fi .not v70) (fun qL =>
 ad K (aq mO false) (av.val qL) (fun v72 =>
 ad K (aq v72 true) (ah (some 2) v7) (fun wa =>
 ad K (aq v72 true) (ao aK wa U) (fun qM =>
 ad K (aq v72 true) (ak .neq aC true qM (.int .i64 0)) (fun v75 =>
 ad K (aq mO false) (aP v72 v75 (.bool false)) (fun v76 =>
 (aP mO (.bool true) v76).wp K U (fun oq U =>
 ad K (aq oq false) (ah (some 2) v8) (fun F6 =>
 ad K (aq oq false) (ao aK F6 U) (fun v80 =>
 ad K (aq oq false) (fi .not v80) (fun D8 =>
 ad K (aq oq false) (av.val D8) (fun uJ =>
 ad K (aq uJ true) (ah (some 3) v7) (fun D9 =>
 ad K (aq uJ true) (ao aK D9 U) (fun BD =>
 ad K (aq uJ true) (ak .neq aC true BD (.int .i64 0)) (fun v85 =>
 ad K (aq oq false) (aP uJ v85 (.bool false)) (fun Ea =>
 (aP oq (.bool true) Ea).wp K U (fun v87 U =>
 al v87 (
 (aQ aK v6 (.bool false) U).wp K U (fun _ U =>
 bF aK v6 U fun qF =>
 aj R qF U) (aa R)) (
 (av.c7 [.ax]).wp K U (fun v10 U =>
 (ao aK v4 U).wp K U (fun MF U =>
 (ak .add aC true MF (.int .i64 1)).wp K U (fun MG U =>
 (av.c7 [.int .i64 0]).wp K U (fun v11 U =>
 (aQ aK v11 MG U).wp K U (fun _ U =>
 (ao (some (true, 1)) v3 U).wp K U (fun zD U =>
 (ao aK v4 U).wp K U (fun v91 U =>
 af K 81 [zD, v91] U (ar (fun WH U =>
 qG K 1 WH U (fun v93 q U =>
 q.Du (fun U =>
 (fun aE : St =>
 az K (ao aK v10 aE) (fun F7 =>
 az K (ah (some 0) v3) (fun F8 =>
 az K (ah (some 0) F8) (fun MH =>
 az K (ao aK MH aE) (fun Q7 =>
 az K (aF (some (43, 6)) none Q7 v93) (fun v99 =>
 az K (ah (some 0) v99) (fun AB =>
 az K (ao aK AB aE) (fun aa1 =>
 az K (aM (some (5, 1)) (some [.int .u8 0]) 1 false [(0, aa1)]) (fun O5 =>
 (eJ (some (5, 1)) false F7 O5 U).wp K U (fun O6 U => cU ((cT AB ++ []) ++ ((cT MH ++ []) ++ ((cT v10 ++ []) ++ []))) aE U /\
 (aQ aK v10 O6 U).wp K U (fun _ U =>
 (fun mW : St =>
 az K (ao aK v4 mW) (fun O7 =>
 az K (ah (some 5) v7) (fun v105 =>
 az K (ao aK v105 mW) (fun O8 =>
 az K (ak .add aC false O7 O8) (fun v107 =>
 az K (ak .sub aC false v107 v93) (fun v109 =>
 az K (ah (some 0) v3) (fun Pa =>
 az K (ah (some 0) Pa) (fun Pb =>
 az K (ao aK Pb mW) (fun Pc =>
 az K (aF (some (43, 6)) none Pc v93) (fun Pd =>
 az K (ah (some 5) Pd) (fun aa2 =>
 az K (ao aK aa2 mW) (fun vY =>
 az K (av.enter 122 [(.int .i64 1), v109, vY]) (fun v117 =>
 az K (fi .not v117) (fun Pe =>
 al Pe (
 (aQ aK v6 (.bool false) U).wp K U (fun _ U =>
 q.r U) (fun _ _ => False)) (
 (ah (some 0) v3).wp K U (fun Pf U =>
 (ah (some 0) Pf).wp K U (fun Pg U =>
 (ao aK Pg U).wp K U (fun Ph U =>
 (aF (some (43, 6)) none Ph v93).wp K U (fun v124 U =>
 (ah (some 5) v124).wp K U (fun Pj U =>
 (ao aK Pj U).wp K U (fun Pk U =>
 (ak .add aC false v93 Pk).wp K U (fun v127 U =>
 (aQ aK v11 v127 U).wp K U (fun _ U =>
 q.n U) (fun _ _ => False)) (fun _ _ => False)) (fun _ _ => False)) (fun _ _ => False)) (fun _ _ => False)) (fun _ _ => False)) (fun _ _ => False)) (fun _ _ => False)))))))))))))))) U) (fun _ _ => False)) (fun _ _ => False)))))))))) U) U) (fun U =>
 (ao aK v11 U).wp K U (fun Pm U =>
 (ao aK v4 U).wp K U (fun Pn U =>
 (ah (some 5) v7).wp K U (fun v130 U =>
 (ao aK v130 U).wp K U (fun v131 U =>
 (ak .add aC false Pn v131).wp K U (fun aa4 U =>
 (ak .eql aC false Pm aa4).wp K U (fun vZ U =>
 ad K (aq vZ true) (ao aK v10 U) (fun yj =>
 ad K (aq vZ true) (ah (some 3) v8) (fun aa5 =>
 ad K (aq vZ true) (ao aK aa5 U) (fun Po =>
 al (aq vZ true) (
 af K 209 [yj, Po] U (ar (fun v138 U =>
 (aP vZ v138 (.bool false)).wp K U (fun v139 U =>
 (aQ aK v6 v139 U).wp K U (fun _ U =>
 bF aK v6 U fun tY =>
 aj R tY U) (aa R)) (aa R)) (aa R))) (
 (aP vZ (.aO []) (.bool false)).wp K U (fun Wx U =>
 (aQ aK v6 Wx U).wp K U (fun _ U =>
 bF aK v6 U fun x7 =>
 aj R x7 U) (aa R)) (aa R)))))) (aa R)) (aa R)) (aa R)) (aa R)) (aa R)) (aa R)) (fun i U =>
 Fk (Nat.beq i 0) (
 (ao aK v11 U).wp K U (fun Wo U =>
 (ao aK v4 U).wp K U (fun Wp U =>
 (ah (some 5) v7).wp K U (fun Wq U =>
 (ao aK Wq U).wp K U (fun Wr U =>
 (ak .add aC false Wp Wr).wp K U (fun Ws U =>
 (ak .eql aC false Wo Ws).wp K U (fun sU U =>
 ad K (aq sU true) (ao aK v10 U) (fun Wt =>
 ad K (aq sU true) (ah (some 3) v8) (fun Wu =>
 ad K (aq sU true) (ao aK Wu U) (fun Wv =>
 al (aq sU true) (
 af K 209 [Wt, Wv] U (ar (fun Ww U =>
 (aP sU Ww (.bool false)).wp K U (fun Wy U =>
 (aQ aK v6 Wy U).wp K U (fun _ U =>
 bF aK v6 U fun DJ =>
 aj R DJ U) (aa R)) (aa R)) (aa R))) (
 (aP sU (.aO []) (.bool false)).wp K U (fun Wz U =>
 (aQ aK v6 Wz U).wp K U (fun _ U =>
 bF aK v6 U fun x8 =>
 aj R x8 U) (aa R)) (aa R)))))) (aa R)) (aa R)) (aa R)) (aa R)) (aa R)) (aa R)) (
 False)) (fun U =>
 bF aK v6 U fun DK =>
 aj R DK U) (fun x U => (aa R) x U)) (aa R))) (aa R)) (aa R)) (aa R)) (aa R)) (aa R)) (aa R)) (aa R))) (aa R)))))))))) (aa R)))))))))) (aa R)))))) (aa R)) (aa R))) (aa R)) (aa R))) (aa R)))))))))) (aa R)))))))) (aa R)))))))))))) (aa R)) (aa R)) (aa R)) (aa R)) (aa R)) (aa R)) (aa R)) (aa R)) (aa R)) (aa R)) (aa R)) (aa R)) (aa R)) (aa R)) (aa R)) (aa R)) (aa R)) (aa R)) (aa R)
def J9 : Prop :=
 af K 210 [a0, a1] U (ar (fun v10 U =>
 (ak .eql aC true v10 (.int .i64 (-1))).wp K U (fun v12 U =>
 al v12 (
 aj R a0 U) (
 (ak .add aC true v10 (.int .i64 1)).wp K U (fun bA U =>
 cG 4 [a0, a1, v10, bA] U fun lp v0 v1 v5 v6 U =>
 (bw (some false) v0).wp K U (fun bV U =>
 (ak .lss aC false v6 bV).wp K U (fun cw U =>
 al cw (
 iU 4 (fun mw eT jB sf U =>
 (ak .add aC true sf (.int .i64 1)).wp K U (fun v21 U =>
 lp mw eT jB v21 U) (aa R)) fun j =>
 (aF (some (3, 1)) none v0 v6).wp K U (fun v24 U =>
 (ao aK v24 U).wp K U (fun dV U =>
 (fM K.P v1 [dV]).wp K U (fun v28 U =>
 (fi .not v28).wp K U (fun ct U =>
 al ct (
 (aF (some (3, 1)) none v0 v5).wp K U (fun dF U =>
 (aQ aK dF dV U).wp K U (fun _ U =>
 (ak .add aC true v5 (.int .i64 1)).wp K U (fun eD U =>
 j v0 v1 eD v6 U) (aa R)) (aa R)) (aa R)) (
 j v0 v1 v5 v6 U)) (aa R)) (aa R)) (aa R)) (aa R)) (
 (dU false (some (3, 1)) v0 (some v5) none).wp K U (fun fV U =>
 (yz (some (3, 1)) (some [.int .i64 0]) fV U).wp K U (fun _ U =>
 (dU false (some (3, 1)) v0 none (some v5)).wp K U (fun jE U =>
 aj R jE U) (aa R)) (aa R)) (aa R))) (aa R)) (aa R)) (aa R))) (aa R)) (aa R))
def Kb : Prop :=
 (ao aK a1 U).wp K U (fun v5 U =>
 (ak .leq aC false a0 v5).wp K U (fun v6 U =>
 aj R v6 U) (aa R)) (aa R)
def Kd : Prop :=
 iU 1 (fun v4 U =>
 al v4 (
 aj R (.bool true) U) (
 aj R (.bool false) U)) fun j =>
 (ak .eql aC true a0 (.int .u8 2)).wp K U (fun v5 U =>
 al v5 (
 j v5 U) (
 (ak .eql aC true a0 (.int .u8 3)).wp K U (fun v6 U =>
 al v6 (
 j v6 U) (
 (ak .eql aC true a0 (.int .u8 4)).wp K U (fun v7 U =>
 al v7 (
 j v7 U) (
 (ak .eql aC true a0 (.int .u8 5)).wp K U (fun v8 U =>
 al v8 (
 j v8 U) (
 (ak .eql aC true a0 (.int .u8 12)).wp K U (fun v9 U =>
 al v9 (
 j v9 U) (
 (ak .eql aC true a0 (.int .u8 13)).wp K U (fun v10 U =>
 al v10 (
 j v10 U) (
 (ak .eql aC true a0 (.int .u8 14)).wp K U (fun v11 U =>
 al v11 (
 j v11 U) (
 (ak .eql aC true a0 (.int .u8 16)).wp K U (fun v12 U =>
 al v12 (
 j v12 U) (
 (ak .eql aC true a0 (.int .u8 31)).wp K U (fun bD U =>
 al bD (
 j bD U) (
 (ak .eql aC true a0 (.int .u8 32)).wp K U (fun bQ U =>
 al bQ (
 j bQ U) (
 (ak .eql aC true a0 (.int .u8 33)).wp K U (fun bA U =>
 al bA (
 j bA U) (
 (ak .eql aC true a0 (.int .u8 34)).wp K U (fun cx U =>
 al cx (
 j cx U) (
 (ak .eql aC true a0 (.int .u8 37)).wp K U (fun cg U =>
 j cg U) (aa R))) (aa R))) (aa R))) (aa R))) (aa R))) (aa R))) (aa R))) (aa R))) (aa R))) (aa R))) (aa R))) (aa R))) (aa R)
def Kg : Prop :=
 (c6 (some [(0, 1), (1, 1), (2, 1)]) (some [.int .u8 0, .str [], .int .i64 0]) none [(0, (.int .u8 1)), (1, a0)]).wp K U (fun v4 U =>
 af K 211 [v4] U (ar (fun v5 U =>
 aj R v5 U) (aa R))) (aa R)
def Ki : Prop :=
 af K 141 [a0] U (ar (fun v4 U =>
 ad K (aq v4 false) (av.val a0) (fun v6 =>
 ad K (aq v4 false) (ak .eql aC true v6 (.int .u8 12)) (fun v7 =>
 (aP v4 (.bool true) v7).wp K U (fun v8 U =>
 ad K (aq v8 false) (av.val a0) (fun v10 =>
 ad K (aq v8 false) (ak .eql aC true v10 (.int .u8 14)) (fun v11 =>
 (aP v8 (.bool true) v11).wp K U (fun v12 U =>
 ad K (aq v12 false) (av.val a0) (fun bQ =>
 ad K (aq v12 false) (ak .eql aC true bQ (.int .u8 25)) (fun bA =>
 (aP v12 (.bool true) bA).wp K U (fun cx U =>
 ad K (aq cx false) (av.val a0) (fun bV =>
 ad K (aq cx false) (ak .eql aC true bV (.int .u8 26)) (fun cw =>
 (aP cx (.bool true) cw).wp K U (fun v20 U =>
 aj R v20 U) (aa R)))) (aa R)))) (aa R)))) (aa R)))) (aa R))
def Kk : Prop :=
 (ak .geq aC true a0 (.int .i64 0)).wp K U (fun v4 U =>
 ad K (aq v4 true) (av.val a0) (fun v6 =>
 ad K (aq v4 true) (ak .leq aC true v6 (.int .i64 1000000)) (fun v7 =>
 (aP v4 v7 (.bool false)).wp K U (fun v8 U =>
 aj R v8 U) (aa R)))) (aa R)
def Km : Prop :=
 cG 2 [a0, (.int .i64 0)] U fun lp v0 v3 U =>
 (bw (some false) v0).wp K U (fun v6 U =>
 (ak .lss aC false v3 v6).wp K U (fun v7 U =>
 al v7 (
 (aF (some (5, 1)) none v0 v3).wp K U (fun v12 U =>
 (ao aK v12 U).wp K U (fun bD U =>
 af K 191 [bD] U (ar (fun bQ U =>
 (fi .not bQ).wp K U (fun bA U =>
 al bA (
 aj R (.bool false) U) (
 (ak .add aC true v3 (.int .i64 1)).wp K U (fun v9 U =>
 lp v0 v9 U) (aa R))) (aa R)) (aa R))) (aa R)) (aa R)) (
 aj R (.bool true) U)) (aa R)) (aa R)
def Kq : Prop :=
 af K 141 [a0] U (ar (fun v4 U =>
 ad K (aq v4 false) (av.val a0) (fun v6 =>
 ad K (aq v4 false) (ak .eql aC true v6 (.int .u8 8)) (fun v7 =>
 (aP v4 (.bool true) v7).wp K U (fun v8 U =>
 aj R v8 U) (aa R)))) (aa R))
def Kt : Prop :=
 cG 3 [a0, a1, (.int .i64 0)] U fun lp v0 v1 v5 U =>
 (bw (some false) v0).wp K U (fun v8 U =>
 (ak .lss aC false v5 v8).wp K U (fun v9 U =>
 al v9 (
 (aF (some (5, 1)) none v0 v5).wp K U (fun bQ U =>
 (ao aK bQ U).wp K U (fun bA U =>
 (ak .neq aC false bA v1).wp K U (fun cg U =>
 al cg (
 aj R (.bool false) U) (
 (ak .add aC true v5 (.int .i64 1)).wp K U (fun v11 U =>
 lp v0 v1 v11 U) (aa R))) (aa R)) (aa R)) (aa R)) (
 aj R (.bool true) U)) (aa R)) (aa R)
def Kv : Prop :=
 (ak .eql aC true a0 (.int .u8 6)).wp K U (fun v4 U =>
 ad K (aq v4 false) (av.val a0) (fun v6 =>
 ad K (aq v4 false) (ak .eql aC true v6 (.int .u8 7)) (fun v7 =>
 (aP v4 (.bool true) v7).wp K U (fun v8 U =>
 aj R v8 U) (aa R)))) (aa R)
def Kx : Prop :=
 (ak .geq aC true a0 (.int .u8 9)).wp K U (fun v4 U =>
 ad K (aq v4 true) (av.val a0) (fun v6 =>
 ad K (aq v4 true) (ak .leq aC true v6 (.int .u8 34)) (fun v7 =>
 (aP v4 v7 (.bool false)).wp K U (fun v8 U =>
 aj R v8 U) (aa R)))) (aa R)
def Kz : Prop :=
 cG 2 [a0, (.int .i64 0)] U fun lp v0 v3 U =>
 (bw (some false) v0).wp K U (fun v6 U =>
 (ak .lss aC false v3 v6).wp K U (fun v7 U =>
 al v7 (
 (aF (some (5, 1)) none v0 v3).wp K U (fun v12 U =>
 (ao aK v12 U).wp K U (fun bD U =>
 af K 141 [bD] U (ar (fun bQ U =>
 (fi .not bQ).wp K U (fun bA U =>
 al bA (
 aj R (.bool false) U) (
 (ak .add aC true v3 (.int .i64 1)).wp K U (fun v9 U =>
 lp v0 v9 U) (aa R))) (aa R)) (aa R))) (aa R)) (aa R)) (
 aj R (.bool true) U)) (aa R)) (aa R)
def KB : Prop :=
 cG 2 [a0, (.int .i64 0)] U fun lp v0 v3 U =>
 (bw (some false) v0).wp K U (fun v6 U =>
 (ak .lss aC false v3 v6).wp K U (fun v7 U =>
 al v7 (
 (aF (some (5, 1)) none v0 v3).wp K U (fun v12 U =>
 (ao aK v12 U).wp K U (fun bD U =>
 af K 142 [bD] U (ar (fun bQ U =>
 (fi .not bQ).wp K U (fun bA U =>
 al bA (
 aj R (.bool false) U) (
 (ak .add aC true v3 (.int .i64 1)).wp K U (fun v9 U =>
 lp v0 v9 U) (aa R))) (aa R)) (aa R))) (aa R)) (aa R)) (
 aj R (.bool true) U)) (aa R)) (aa R)
def KE : Prop :=
 cG 2 [a0, (.int .i64 0)] U fun lp v0 v3 U =>
 (bw (some false) v0).wp K U (fun v6 U =>
 (ak .lss aC false v3 v6).wp K U (fun v7 U =>
 al v7 (
 (aF (some (5, 1)) none v0 v3).wp K U (fun v12 U =>
 (ao aK v12 U).wp K U (fun bD U =>
 af K 142 [bD] U (ar (fun bQ U =>
 (fi .not bQ).wp K U (fun bA U =>
 ad K (aq bA true) (av.val v0) (fun cg =>
 ad K (aq bA true) (av.val v3) (fun bV =>
 ad K (aq bA true) (aF (some (5, 1)) none cg bV) (fun cw =>
 ad K (aq bA true) (ao aK cw U) (fun v20 =>
 ad K (aq bA true) (ak .neq aC true v20 (.int .u8 35)) (fun v21 =>
 (aP bA v21 (.bool false)).wp K U (fun ck U =>
 ad K (aq ck true) (av.val v0) (fun v24 =>
 ad K (aq ck true) (av.val v3) (fun dV =>
 ad K (aq ck true) (aF (some (5, 1)) none v24 dV) (fun eB =>
 ad K (aq ck true) (ao aK eB U) (fun dw =>
 ad K (aq ck true) (ak .neq aC true dw (.int .u8 36)) (fun v28 =>
 (aP ck v28 (.bool false)).wp K U (fun ct U =>
 al ct (
 aj R (.bool false) U) (
 (ak .add aC true v3 (.int .i64 1)).wp K U (fun v9 U =>
 lp v0 v9 U) (aa R))) (aa R))))))) (aa R))))))) (aa R)) (aa R))) (aa R)) (aa R)) (
 aj R (.bool true) U)) (aa R)) (aa R)
def KG : Prop :=
 (aM (some (178, 1)) (some [.int .i64 0]) 1 false [(0, (.int .i64 0))]).wp K U (fun v4 U =>
 af K 151 [a0, v4] U (ar (fun v5 U =>
 (fi .not v5).wp K U (fun v6 U =>
 aj R v6 U) (aa R)) (aa R))) (aa R)
def KI : Prop :=
 cG 4 [a0, a1, a2, (.int .i64 0)] U fun lp v0 v1 v2 v4 U =>
 (ao aK v1 U).wp K U (fun v9 U =>
 (bw (some true) v9).wp K U (fun v10 U =>
 (ak .lss aC false v4 v10).wp K U (fun v11 U =>
 al v11 (
 (ao aK v1 U).wp K U (fun v12 U =>
 (ey true none none v12 v4).wp K U (fun bQ U =>
 iU 6 (fun mw eT lI dW Yw v24 U =>
 al v24 (
 (ak .add aC true dW (.int .i64 1)).wp K U (fun v28 U =>
 lp mw eT lI v28 U) (aa R)) (
 (ak .eql aC true Yw (.int .u8 126)).wp K U (fun v30 U =>
 al v30 (
 (ao aK eT U).wp K U (fun fG U =>
 (dU true none fG (some dW) none).wp K U (fun gi U =>
 af K 148 [gi, (.str zE)] U (ar (fun eD U =>
 (aT eD 0).wp K U (fun fq U =>
 (aT eD 1).wp K U (fun v37 U =>
 (aT eD 2).wp K U (fun fV U =>
 (fM K.P mw [dW, fq]).wp K U (fun jY U =>
 (fi .not jY).wp K U (fun eI U =>
 al eI (
 aj R (.aO []) U) (
 (bw (some true) fq).wp K U (fun v46 U =>
 (ak .add aC false dW v46).wp K U (fun lK U =>
 lp mw eT lI lK U) (aa R)) (aa R))) (aa R)) (aa R)) (aa R)) (aa R)) (aa R)) (aa R))) (aa R)) (aa R)) (
 (fM K.P mw [dW, (.str w_)]).wp K U (fun cg U =>
 (fi .not cg).wp K U (fun bV U =>
 al bV (
 aj R (.aO []) U) (
 (ao aK lI U).wp K U (fun v20 U =>
 (fM K.P v20 [dW]).wp K U (fun ck U =>
 (ak .add aC false dW ck).wp K U (fun cR U =>
 lp mw eT lI cR U) (aa R)) (aa R)) (aa R))) (aa R)) (aa R))) (aa R))) fun j =>
 (ak .eql aC true bQ (.int .u8 32)).wp K U (fun dV U =>
 al dV (
 j v0 v1 v2 v4 bQ dV U) (
 (ak .eql aC true bQ (.int .u8 10)).wp K U (fun eB U =>
 j v0 v1 v2 v4 bQ eB U) (aa R))) (aa R)) (aa R)) (aa R)) (
 aj R (.aO []) U)) (aa R)) (aa R)) (aa R)
def VW : Prop :=
 af K 212 [a0, a1] U (ar (fun v9 U =>
 (aT v9 0).wp K U (fun v10 U =>
 (aT v9 1).wp K U (fun v11 U =>
 (aT v9 2).wp K U (fun v12 U =>
 aj R (.aO [v10, v11, v12]) U) (aa R)) (aa R)) (aa R)) (aa R))
def KL : Prop :=
 cG 2 [a0, (.int .i64 0)] U fun lp v0 v2 U =>
 (bw (some true) v0).wp K U (fun v5 U =>
 (ak .lss aC false v2 v5).wp K U (fun v6 U =>
 ad K (aq v6 true) (av.val v0) (fun v8 =>
 ad K (aq v6 true) (av.val v2) (fun v9 =>
 ad K (aq v6 true) (ey true none none v8 v9) (fun v10 =>
 ad K (aq v6 true) (aM (some (178, 1)) (some [.int .i64 0]) 3 false [(0, (.int .i64 2)), (1, (.int .i64 3)), (2, (.int .i64 4))]) (fun v11 =>
 ad K (aq v6 true) (av.enter 151 [v10, v11]) (fun v12 =>
 (aP v6 v12 (.bool false)).wp K U (fun bD U =>
 al bD (
 (ak .add aC true v2 (.int .i64 1)).wp K U (fun bA U =>
 lp v0 bA U) (aa R)) (
 aj R v2 U)) (aa R))))))) (aa R)) (aa R)
def KN : Prop :=
 (av.c7 [.int .u8 0, .str [], .int .i64 0]).wp K U (fun v2 U =>
 (c6 none (some [.str [], .str []]) (some (2, 9, 1)) [(0, (.str cP)), (1, (.str iL))]).wp K U (fun v6 U =>
 cG 4 [a0, v2, v6, (.int .i64 0)] U fun lp v0 lI sf v7 U =>
 (ak .lss aC true v7 (.int .i64 2)).wp K U (fun v8 U =>
 al v8 (
 (ey false (some (2, 9, 1)) aK sf v7).wp K U (fun v9 U =>
 af K 213 [v0, v9] U (ar (fun v12 U =>
 al v12 (
 (c6 (some [(0, 1), (1, 1), (2, 1)]) (some [.int .u8 0, .str [], .int .i64 0]) none [(0, (.int .u8 4)), (1, v9)]).wp K U (fun bQ U =>
 (aQ (some (true, 3)) lI bQ U).wp K U (fun _ U =>
 bF (some (true, 3)) lI U fun r0 =>
 aj R (.aO [r0, (.int .i64 0)]) U) (aa R)) (aa R)) (
 (ak .add aC true v7 (.int .i64 1)).wp K U (fun bA U =>
 lp v0 lI sf bA U) (aa R))) (aa R))) (aa R)) (
 (ak .eql aC true v0 (.str w_)).wp K U (fun cg U =>
 ad K (aq cg false) (av.val v0) (fun cw =>
 ad K (aq cg false) (ey true none none cw (.int .i64 0)) (fun v20 =>
 ad K (aq cg false) (av.enter 214 [(.str dc), v20]) (fun v21 =>
 ad K (aq cg false) (ak .lss aC true v21 (.int .i64 0)) (fun ck =>
 (aP cg (.bool true) ck).wp K U (fun cR U =>
 al cR (
 (c6 (some [(0, 1), (1, 1), (2, 1)]) (some [.int .u8 0, .str [], .int .i64 0]) none []).wp K U (fun v24 U =>
 (aQ (some (true, 3)) lI v24 U).wp K U (fun _ U =>
 bF (some (true, 3)) lI U fun qF =>
 aj R (.aO [qF, (.int .i64 4)]) U) (aa R)) (aa R)) (
 (dU true none v0 none (some (.int .i64 1))).wp K U (fun eB U =>
 (c6 (some [(0, 1), (1, 1), (2, 1)]) (some [.int .u8 0, .str [], .int .i64 0]) none [(0, (.int .u8 4)), (1, eB)]).wp K U (fun dw U =>
 (aQ (some (true, 3)) lI dw U).wp K U (fun _ U =>
 bF (some (true, 3)) lI U fun tY =>
 aj R (.aO [tY, (.int .i64 0)]) U) (aa R)) (aa R)) (aa R))) (aa R)))))) (aa R))) (aa R)) (aa R)) (aa R)
def VX : Prop :=
 af K 216 [a0] U (ar (fun v7 U =>
 af K 215 [a1, v7] U (ar (fun v8 U =>
 aj R v8 U) (aa R))) (aa R))
def KS : Prop :=
 (bw (some true) a0).wp K U (fun v6 U =>
 cG 4 [a0, (.int .i64 0), v6, (.int .i64 0)] U fun lp v0 v3 sf v7 U =>
 (ak .lss aC false v7 sf).wp K U (fun v8 U =>
 al v8 (
 (ey true none none v0 v7).wp K U (fun v12 U =>
 (aM (some (178, 1)) (some [.int .i64 0]) 1 false [(0, (.int .i64 2))]).wp K U (fun bD U =>
 af K 151 [v12, bD] U (ar (fun bQ U =>
 (fi .not bQ).wp K U (fun bA U =>
 al bA (
 aj R (.int .i64 4) U) (
 (ak .mul aC true (.int .i64 10) v3).wp K U (fun cg U =>
 (ey true none none v0 v7).wp K U (fun v20 U =>
 (ak .sub aC true v20 (.int .u8 48)).wp K U (fun v21 U =>
 (ti (some .i64) true false false v21).wp K U (fun ck U =>
 (ak .add aC false cg ck).wp K U (fun cR U =>
 (rT cR (.int .i64 1000001)).wp K U (fun v24 U =>
 (ak .add aC true v7 (.int .i64 1)).wp K U (fun dV U =>
 lp v0 v24 sf dV U) (aa R)) (aa R)) (aa R)) (aa R)) (aa R)) (aa R)) (aa R))) (aa R)) (aa R))) (aa R)) (aa R)) (
 (bw (some true) v0).wp K U (fun v28 U =>
 (ak .gtr aC true v28 (.int .i64 1)).wp K U (fun ct U =>
 ad K (aq ct true) (av.val v0) (fun v31 =>
 ad K (aq ct true) (ey true none none v31 (.int .i64 0)) (fun fG =>
 ad K (aq ct true) (ak .eql aC true fG (.int .u8 48)) (fun dF =>
 (aP ct dF (.bool false)).wp K U (fun gi U =>
 al gi (
 aj R (.int .i64 4) U) (
 (ak .gtr aC true v3 (.int .i64 1000000)).wp K U (fun v37 U =>
 al v37 (
 aj R (.int .i64 3) U) (
 aj R (.int .i64 0) U)) (aa R))) (aa R))))) (aa R)) (aa R))) (aa R)) (aa R)
def Qf : Prop :=
 (dZ a0).wp K U (fun v1 U =>
 (ah (some 0) v1).wp K U (fun v4 U =>
 (ao aK v4 U).wp K U (fun v5 U =>
 (bw (some false) v5).wp K U (fun v6 U =>
 (ak .gtr aC true v6 (.int .i64 900)).wp K U (fun v7 U =>
 al v7 (
 aj R (.int .i64 5) U) (
 (ao (some (true, 1)) v1 U).wp K U (fun v9 U =>
 (c6 (some [(0, 1)]) (some [.ax]) none [(0, v9)]).wp K U (fun v10 U =>
 af K 68 [v10] U (ar (fun v11 U =>
 (fi .not v11).wp K U (fun v12 U =>
 al v12 (
 aj R (.int .i64 4) U) (
 (ao (some (true, 1)) v1 U).wp K U (fun bQ U =>
 af K 69 [bQ] U (ar (fun bA U =>
 al bA (
 aj R (.int .i64 5) U) (
 aj R (.int .i64 0) U)) (aa R))) (aa R))) (aa R)) (aa R))) (aa R)) (aa R))) (aa R)) (aa R)) (aa R)) (aa R)) (aa R)
def Qg : Prop :=
 (dZ a0).wp K U (fun v1 U =>
 (ah (some 0) v1).wp K U (fun v10 U =>
 (ao aK v10 U).wp K U (fun v11 U =>
 (bw (some false) v11).wp K U (fun bD U =>
 (ak .gtr aC true bD (.int .i64 900)).wp K U (fun bQ U =>
 al bQ (
 aj R (.int .i64 5) U) (
 af K 70 [v11] U (ar (fun cx U =>
 (fi .not cx).wp K U (fun cg U =>
 ad K (aq cg false) (av.val v11) (fun cw =>
 ad K (aq cg false) (aF (some (43, 6)) none cw (.int .i64 0)) (fun v20 =>
 ad K (aq cg false) (ah (some 0) v20) (fun v21 =>
 ad K (aq cg false) (ao aK v21 U) (fun ck =>
 ad K (aq cg false) (ak .neq aC true ck (.int .u8 1)) (fun cR =>
 (aP cg (.bool true) cR).wp K U (fun v24 U =>
 al v24 (
 aj R (.int .i64 4) U) (
 cG 2 [v11, (.int .i64 0)] U fun lp v3 v4 U =>
 (bw (some false) v3).wp K U (fun dw U =>
 (ak .lss aC false v4 dw).wp K U (fun v28 U =>
 al v28 (
 af K 67 [v3, v4] U (ar (fun dF U =>
 cG 5 [v3, v4, .ax, dF, (.int .i64 0)] U fun tH lJ dW v5 v6 v7 U =>
 (bw (some false) v6).wp K U (fun fq U =>
 (ak .lss aC false v7 fq).wp K U (fun v37 U =>
 al v37 (
 (aF (some (3, 1)) none v6 v7).wp K U (fun nL U =>
 (ao aK nL U).wp K U (fun jU U =>
 (aF (some (43, 6)) none lJ jU).wp K U (fun v46 U =>
 (ah (some 0) v46).wp K U (fun lK U =>
 (ao aK lK U).wp K U (fun iK U =>
 (aM (some (5, 1)) (some [.int .u8 0]) 1 false [(0, iK)]).wp K U (fun v49 U =>
 (eJ (some (5, 1)) false v5 v49 U).wp K U (fun mc U =>
 (ak .add aC true v7 (.int .i64 1)).wp K U (fun iJ U =>
 tH lJ dW mc v6 iJ U) (aa R)) (aa R)) (aa R)) (aa R)) (aa R)) (aa R)) (aa R)) (aa R)) (
 (ak .gtr aC true dW (.int .i64 0)).wp K U (fun jZ U =>
 ad K (aq jZ true) (av.val lJ) (fun lL =>
 ad K (aq jZ true) (av.val dW) (fun iX =>
 ad K (aq jZ true) (aF (some (43, 6)) none lL iX) (fun oc =>
 ad K (aq jZ true) (ah (some 0) oc) (fun kK =>
 ad K (aq jZ true) (ao aK kK U) (fun mM =>
 ad K (aq jZ true) (ak .eql aC true mM (.int .u8 1)) (fun v59 =>
 (aP jZ v59 (.bool false)).wp K U (fun sV U =>
 ad K (aq sV false) (av.val lJ) (fun pz =>
 ad K (aq sV false) (av.val dW) (fun qJ =>
 ad K (aq sV false) (aF (some (43, 6)) none pz qJ) (fun mN =>
 ad K (aq sV false) (ao (some (true, 6)) mN U) (fun sW =>
 ad K (aq sV false) (av.enter 71 [sW]) (fun zB =>
 ad K (aq sV false) (fi .not zB) (fun mO =>
 (aP sV (.bool true) mO).wp K U (fun qK U =>
 ad K (aq qK false) (av.val lJ) (fun v70 =>
 ad K (aq qK false) (av.val dW) (fun qL =>
 ad K (aq qK false) (aF (some (43, 6)) none v70 qL) (fun v72 =>
 ad K (aq qK false) (ah (some 0) v72) (fun wa =>
 ad K (aq qK false) (ao aK wa U) (fun qM =>
 ad K (aq qK false) (av.val v5) (fun v75 =>
 ad K (aq qK false) (av.enter 72 [qM, v75]) (fun v76 =>
 ad K (aq qK false) (fi .not v76) (fun oq =>
 (aP qK (.bool true) oq).wp K U (fun D7 U =>
 al D7 (
 aj R (.int .i64 4) U) (
 (ak .add aC true dW (.int .i64 1)).wp K U (fun v30 U =>
 lp lJ v30 U) (aa R))) (aa R)))))))))) (aa R)))))))) (aa R)))))))) (aa R))) (aa R)) (aa R)) (aa R))) (
 af K 73 [v3] U (ar (fun v80 U =>
 cG 3 [v3, v80, (.int .i64 0)] U fun Ds Pp v8 v9 U =>
 (bw (some false) Pp).wp K U (fun D9 U =>
 (ak .lss aC false v9 D9).wp K U (fun BD U =>
 al BD (
 (aF (some (3, 1)) none v8 v9).wp K U (fun MG U =>
 (ao aK MG U).wp K U (fun zD U =>
 (ak .gtr aC true zD (.int .i64 60)).wp K U (fun v91 U =>
 al v91 (
 aj R (.int .i64 5) U) (
 (ak .add aC true v9 (.int .i64 1)).wp K U (fun Ea U =>
 Ds Pp v8 Ea U) (aa R))) (aa R)) (aa R)) (aa R)) (
 af K 67 [Pp, (.int .i64 0)] U (ar (fun v93 U =>
 (bw (some false) v93).wp K U (fun F7 U =>
 (ak .gtr aC true F7 (.int .i64 24)).wp K U (fun F8 U =>
 al F8 (
 aj R (.int .i64 5) U) (
 aj R (.int .i64 0) U)) (aa R)) (aa R)) (aa R)))) (aa R)) (aa R)) (aa R)))) (aa R)) (aa R))) (aa R))))))) (aa R)) (aa R)))) (aa R)) (aa R)) (aa R)) (aa R)) (aa R)
def Qh : Prop :=
 (dZ a0).wp K U (fun v1 U =>
 (av.c7 [.ax]).wp K U (fun v2 U =>
 (av.c7 [.int .i64 0]).wp K U (fun v3 U =>
 (av.c7 [.int .i64 0]).wp K U (fun v4 U =>
 (ao aK v1 U).wp K U (fun bQ U =>
 af K 74 [bQ] U (ar (fun bA U =>
 (aT bA 0).wp K U (fun cx U =>
 (aT bA 1).wp K U (fun cg U =>
 (ak .neq aC true cg (.int .i64 0)).wp K U (fun cw U =>
 al cw (
 (aQ aK v2 .ax U).wp K U (fun _ U =>
 (aQ aK v3 cx U).wp K U (fun _ U =>
 (aQ aK v4 cg U).wp K U (fun _ U =>
 bF aK v2 U fun r0 =>
 bF aK v3 U fun r1 =>
 bF aK v4 U fun r2 =>
 aj R (.aO [r0, r1, r2]) U) (aa R)) (aa R)) (aa R)) (
 (av.c7 [.ax]).wp K U (fun v7 U =>
 (ao aK v1 U).wp K U (fun cR U =>
 af K 76 [cR, (.func (.func 75) [] [v7])] U (ar (fun dV U =>
 qG K 2 dV U (fun eB dw q U =>
 q.Du (fun U =>
 (ak .neq aC true dw (.str w_)).wp K U (fun ct U =>
 al ct (
 q.n U) (
 (ao aK v1 U).wp K U (fun v31 U =>
 (dU true none v31 (some eB) none).wp K U (fun dF U =>
 af K 77 [dF] U (ar (fun gi U =>
 (aT gi 0).wp K U (fun eD U =>
 (aT gi 1).wp K U (fun fq U =>
 (av.c7 [.int .u8 0, .str [], .int .i64 0]).wp K U (fun v11 U =>
 (aQ (some (true, 3)) v11 eD U).wp K U (fun _ U =>
 iU 7 (fun lI lJ dW nk v9 zy v12 U =>
 (ak .neq aC true v12 (.int .i64 0)).wp K U (fun jU U =>
 al jU (
 (aQ aK lI .ax U).wp K U (fun _ U =>
 (aQ aK lJ v9 U).wp K U (fun _ U =>
 (aQ aK dW v12 U).wp K U (fun _ U =>
 q.r U) (fun _ _ => False)) (fun _ _ => False)) (fun _ _ => False)) (
 (ah (some 2) zy).wp K U (fun v49 U =>
 (aQ aK v49 v9 U).wp K U (fun _ U =>
 (ao aK nk U).wp K U (fun mc U =>
 (ao (some (true, 3)) zy U).wp K U (fun v51 U =>
 (aM (some (51, 3)) (some [.int .u8 0, .str [], .int .i64 0]) 1 false [(0, v51)]).wp K U (fun jZ U =>
 (eJ (some (51, 3)) false mc jZ U).wp K U (fun v53 U =>
 (aQ aK nk v53 U).wp K U (fun _ U =>
 q.n U) (fun _ _ => False)) (fun _ _ => False)) (fun _ _ => False)) (fun _ _ => False)) (fun _ _ => False)) (fun _ _ => False)) (fun _ _ => False))) (fun _ _ => False)) fun j =>
 (ak .eql aC true fq (.int .i64 0)).wp K U (fun fV U =>
 ad K (aq fV true) (ao aK v7 U) (fun v40 =>
 ad K (aq fV true) (bw (some false) v40) (fun jE =>
 ad K (aq fV true) (ak .eql aC true jE (.int .i64 900)) (fun jY =>
 (aP fV jY (.bool false)).wp K U (fun eI U =>
 al eI (
 j v2 v3 v4 v7 eB v11 (.int .i64 5) U) (
 j v2 v3 v4 v7 eB v11 fq U)) (fun _ _ => False))))) (fun _ _ => False)) (fun _ _ => False)) (fun _ _ => False)) (fun _ _ => False)) (fun _ _ => False)) (fun _ _ => False))) (fun _ _ => False)) (fun _ _ => False))) (fun _ _ => False)) U) (fun U =>
 (ao aK v7 U).wp K U (fun lL U =>
 (aQ aK v2 lL U).wp K U (fun _ U =>
 (aQ aK v3 (.int .i64 0) U).wp K U (fun _ U =>
 (aQ aK v4 (.int .i64 0) U).wp K U (fun _ U =>
 bF aK v2 U fun qF =>
 bF aK v3 U fun aaM =>
 bF aK v4 U fun aaP =>
 aj R (.aO [qF, aaM, aaP]) U) (aa R)) (aa R)) (aa R)) (aa R)) (fun i U =>
 Fk (Nat.beq i 0) (
 (ao aK v7 U).wp K U (fun YA U =>
 (aQ aK v2 YA U).wp K U (fun _ U =>
 (aQ aK v3 (.int .i64 0) U).wp K U (fun _ U =>
 (aQ aK v4 (.int .i64 0) U).wp K U (fun _ U =>
 bF aK v2 U fun tY =>
 bF aK v3 U fun aaN =>
 bF aK v4 U fun aaQ =>
 aj R (.aO [tY, aaN, aaQ]) U) (aa R)) (aa R)) (aa R)) (aa R)) (
 False)) (fun U =>
 bF aK v2 U fun x7 =>
 bF aK v3 U fun aaO =>
 bF aK v4 U fun aaR =>
 aj R (.aO [x7, aaO, aaR]) U) (fun x U => (aa R) x U)) (aa R))) (aa R)) (aa R))) (aa R)) (aa R)) (aa R)) (aa R))) (aa R)) (aa R)) (aa R)) (aa R)) (aa R)
def Qi : Prop :=
 (dZ a0).wp K U (fun v2 U =>
 (dZ a1).wp K U (fun v3 U =>
 (ao (some (true, 1)) v2 U).wp K U (fun v6 U =>
 (ao aK v3 U).wp K U (fun v7 U =>
 af K 78 [v6, v7, (.func (.func 79) [] [v3])] U (ar (fun v9 U =>
 (aT v9 0).wp K U (fun v10 U =>
 (aT v9 1).wp K U (fun v11 U =>
 aj R (.aO [v10, v11]) U) (aa R)) (aa R)) (aa R))) (aa R)) (aa R)) (aa R)) (aa R)
def Qj : Prop :=
 (dZ a0).wp K U (fun v2 U =>
 (dZ a1).wp K U (fun v3 U =>
 (ao (some (true, 1)) v2 U).wp K U (fun v6 U =>
 (ao aK v3 U).wp K U (fun v7 U =>
 af K 82 [v6, v7, (.func (.func 84) [] [v3])] U (ar (fun v9 U =>
 (aT v9 0).wp K U (fun v10 U =>
 (aT v9 1).wp K U (fun v11 U =>
 aj R (.aO [v10, v11]) U) (aa R)) (aa R)) (aa R))) (aa R)) (aa R)) (aa R)) (aa R)
def Qk : Prop :=
 (dZ a0).wp K U (fun v2 U =>
 (ao (some (true, 1)) v2 U).wp K U (fun v7 U =>
 af K 65 [v7, a1] U (ar (fun v9 U =>
 (ak .neq aC true v9 (.int .i64 0)).wp K U (fun v11 U =>
 al v11 (
 aj R (.aO [.ax, v9]) U) (
 (ah (some 0) v2).wp K U (fun bD U =>
 (ao aK bD U).wp K U (fun bQ U =>
 af K 67 [bQ, a1] U (ar (fun cx U =>
 aj R (.aO [cx, (.int .i64 0)]) U) (aa R))) (aa R)) (aa R))) (aa R)) (aa R))) (aa R)) (aa R)
def Ql : Prop :=
 (dZ a0).wp K U (fun v2 U =>
 (ao (some (true, 1)) v2 U).wp K U (fun v7 U =>
 af K 65 [v7, a1] U (ar (fun v9 U =>
 (ak .neq aC true v9 (.int .i64 0)).wp K U (fun v11 U =>
 al v11 (
 aj R (.aO [(.int .i64 0), v9]) U) (
 (ak .eql aC true a1 (.int .i64 0)).wp K U (fun bQ U =>
 al bQ (
 aj R (.aO [(.int .i64 0), (.int .i64 7)]) U) (
 (ah (some 0) v2).wp K U (fun bA U =>
 (ao aK bA U).wp K U (fun cx U =>
 af K 90 [cx, a1] U (ar (fun bV U =>
 aj R (.aO [bV, (.int .i64 0)]) U) (aa R))) (aa R)) (aa R))) (aa R))) (aa R)) (aa R))) (aa R)) (aa R)
def Qm : Prop :=
 (dZ a0).wp K U (fun v2 U =>
 (dZ a1).wp K U (fun v3 U =>
 (ao (some (true, 1)) v2 U).wp K U (fun v6 U =>
 (ao aK v3 U).wp K U (fun v7 U =>
 af K 91 [v6, v7, (.func (.func 92) [] [v3])] U (ar (fun v9 U =>
 (aT v9 0).wp K U (fun v10 U =>
 (aT v9 1).wp K U (fun v11 U =>
 aj R (.aO [v10, v11]) U) (aa R)) (aa R)) (aa R))) (aa R)) (aa R)) (aa R)) (aa R)
def Qn : Prop :=
 (dZ a0).wp K U (fun v2 U =>
 (ao (some (true, 1)) v2 U).wp K U (fun v7 U =>
 af K 65 [v7, a1] U (ar (fun v9 U =>
 (ak .neq aC true v9 (.int .i64 0)).wp K U (fun v11 U =>
 al v11 (
 aj R (.aO [.ax, v9]) U) (
 (fun aE : St =>
 az K (ah (some 0) v2) (fun bD =>
 az K (ao aK bD aE) (fun bQ =>
 az K (ah (some 0) v2) (fun cg =>
 az K (ao aK cg aE) (fun bV =>
 az K (aF (some (43, 6)) none bV a1) (fun v20 =>
 az K (ah (some 5) v20) (fun v21 =>
 az K (ao aK v21 aE) (fun ck =>
 az K (ak .add aC false a1 ck) (fun cR =>
 az K (dU false (some (43, 6)) bQ (some a1) (some cR)) (fun v24 =>
 (eJ (some (43, 6)) false .ax v24 U).wp K U (fun dV U => cU ((cT v21 ++ []) ++ ((cT cg ++ []) ++ ((cT bD ++ []) ++ []))) aE U /\
 aj R (.aO [dV, (.int .i64 0)]) U) (aa R))))))))))) U)) (aa R)) (aa R))) (aa R)) (aa R)
def Qo : Prop :=
 (bw (some false) a0).wp K U (fun v7 U =>
 (bw (some false) a1).wp K U (fun v9 U =>
 (ak .neq aC false v7 v9).wp K U (fun v10 U =>
 al v10 (
 aj R (.bool false) U) (
 cG 3 [a0, a1, (.int .i64 0)] U fun lp v0 v1 v5 U =>
 (bw (some false) v0).wp K U (fun bD U =>
 (ak .lss aC false v5 bD).wp K U (fun bQ U =>
 al bQ (
 (fun aE : St =>
 az K (aF (some (3, 1)) none v0 v5) (fun cw =>
 az K (ao aK cw aE) (fun v20 =>
 az K (aF (some (3, 1)) none v1 v5) (fun cR =>
 az K (ao aK cR aE) (fun v24 =>
 az K (ak .neq aC false v20 v24) (fun dV =>
 al dV (
 aj R (.bool false) U) (
 (ak .add aC true v5 (.int .i64 1)).wp K U (fun cx U =>
 lp v0 v1 cx U) (aa R)))))))) U) (
 aj R (.bool true) U)) (aa R)) (aa R))) (aa R)) (aa R)) (aa R)
def Qp : Prop :=
 (bw (some false) a0).wp K U (fun v7 U =>
 (bw (some false) a1).wp K U (fun v9 U =>
 (ak .neq aC false v7 v9).wp K U (fun v10 U =>
 al v10 (
 aj R (.bool false) U) (
 cG 3 [a0, a1, (.int .i64 0)] U fun lp v0 v1 v5 U =>
 (bw (some false) v0).wp K U (fun bD U =>
 (ak .lss aC false v5 bD).wp K U (fun bQ U =>
 al bQ (
 (fun aE : St =>
 az K (aF (some (43, 6)) none v0 v5) (fun cw =>
 az K (ao (some (true, 6)) cw aE) (fun v20 =>
 az K (aF (some (43, 6)) none v1 v5) (fun cR =>
 az K (ao (some (true, 6)) cR aE) (fun v24 =>
 az K (ak .neq (BT.mk false false false (some [.i, .s, .i, .i, .i, .i]) false) false v20 v24) (fun dV =>
 al dV (
 aj R (.bool false) U) (
 (ak .add aC true v5 (.int .i64 1)).wp K U (fun cx U =>
 lp v0 v1 cx U) (aa R)))))))) U) (
 aj R (.bool true) U)) (aa R)) (aa R))) (aa R)) (aa R)) (aa R)
def Qq : Prop :=
 (bw (some false) a0).wp K U (fun v5 U =>
 (ak .gtr aC true v5 (.int .i64 1000)).wp K U (fun v6 U =>
 al v6 (
 aj R (.bool false) U) (
 cG 2 [a0, (.int .i64 0)] U fun lp v0 v3 U =>
 (bw (some false) v0).wp K U (fun v9 U =>
 (ak .lss aC false v3 v9).wp K U (fun v10 U =>
 al v10 (
 (aF (some (43, 6)) none v0 v3).wp K U (fun bA U =>
 (ah (some 1) bA).wp K U (fun cx U =>
 (ao aK cx U).wp K U (fun cg U =>
 (bw (some true) cg).wp K U (fun bV U =>
 (ak .gtr aC true bV (.int .i64 100)).wp K U (fun cw U =>
 al cw (
 aj R (.bool false) U) (
 (ak .add aC true v3 (.int .i64 1)).wp K U (fun v12 U =>
 lp v0 v12 U) (aa R))) (aa R)) (aa R)) (aa R)) (aa R)) (aa R)) (
 aj R (.bool true) U)) (aa R)) (aa R))) (aa R)) (aa R)
def Qc : Prop :=
 (dZ a0).wp K U (fun v2 U =>
 (ao (some (true, 1)) v2 U).wp K U (fun cg U =>
 af K 24 [cg] U (ar (fun bV U =>
 (fi .not bV).wp K U (fun cw U =>
 al cw (
 af K 17 [] U (ar (fun v20 U =>
 aj R v20 U) (aa R))) (
 (ao (some (true, 1)) v2 U).wp K U (fun ck U =>
 af K 26 [ck] U (ar (fun cR U =>
 af K 35 [cR, a1] U (ar (fun dV U =>
 (aT dV 0).wp K U (fun eB U =>
 (aT dV 1).wp K U (fun dw U =>
 (ao (some (true, 1)) v2 U).wp K U (fun ct U =>
 af K 42 [ct, a1] U (ar (fun v31 U =>
 (aT v31 0).wp K U (fun fG U =>
 (aT v31 1).wp K U (fun dF U =>
 (ao (some (true, 1)) v2 U).wp K U (fun eD U =>
 af K 26 [eD] U (ar (fun fq U =>
 af K 38 [fq, a1] U (ar (fun fV U =>
 (aT fV 0).wp K U (fun iJ U =>
 (aT fV 1).wp K U (fun v40 U =>
 (ao (some (true, 1)) v2 U).wp K U (fun jY U =>
 af K 43 [jY, a1] U (ar (fun nL U =>
 (aT nL 0).wp K U (fun jU U =>
 (aT nL 1).wp K U (fun v46 U =>
 (ao (some (true, 1)) v2 U).wp K U (fun iK U =>
 af K 26 [iK] U (ar (fun v49 U =>
 af K 44 [v49, a1] U (ar (fun v51 U =>
 (aT v51 0).wp K U (fun jZ U =>
 (aT v51 1).wp K U (fun v53 U =>
 (ao (some (true, 1)) v2 U).wp K U (fun iX U =>
 af K 45 [iX, a1] U (ar (fun kK U =>
 (aT kK 0).wp K U (fun mM U =>
 (aT kK 1).wp K U (fun v59 U =>
 (ak .eql aC false dw dF).wp K U (fun pz U =>
 ad K (aq pz true) (av.val eB) (fun mN =>
 ad K (aq pz true) (av.val fG) (fun sW =>
 ad K (aq pz true) (av.enter 46 [mN, sW]) (fun zB =>
 (aP pz zB (.bool false)).wp K U (fun mO U =>
 ad K (aq mO true) (av.val v40) (fun zC =>
 ad K (aq mO true) (av.val v46) (fun v70 =>
 ad K (aq mO true) (ak .eql aC false zC v70) (fun qL =>
 (aP mO qL (.bool false)).wp K U (fun v72 U =>
 ad K (aq v72 true) (av.val iJ) (fun qM =>
 ad K (aq v72 true) (av.val jU) (fun v75 =>
 ad K (aq v72 true) (ak .eql aC false qM v75) (fun v76 =>
 (aP v72 v76 (.bool false)).wp K U (fun oq U =>
 ad K (aq oq true) (av.val v53) (fun F6 =>
 ad K (aq oq true) (av.val v59) (fun v80 =>
 ad K (aq oq true) (ak .eql aC false F6 v80) (fun D8 =>
 (aP oq D8 (.bool false)).wp K U (fun uJ U =>
 ad K (aq uJ true) (av.val jZ) (fun BD =>
 ad K (aq uJ true) (av.val mM) (fun v85 =>
 ad K (aq uJ true) (av.enter 47 [BD, v85]) (fun Ea =>
 (aP uJ Ea (.bool false)).wp K U (fun v87 U =>
 ad K (aq v87 true) (av.enter 17 []) (fun MG =>
 (aP v87 MG (.bool false)).wp K U (fun zD U =>
 aj R zD U) (aa R))) (aa R))))) (aa R))))) (aa R))))) (aa R))))) (aa R))))) (aa R)) (aa R)) (aa R)) (aa R))) (aa R)) (aa R)) (aa R)) (aa R))) (aa R))) (aa R)) (aa R)) (aa R)) (aa R))) (aa R)) (aa R)) (aa R)) (aa R))) (aa R))) (aa R)) (aa R)) (aa R)) (aa R))) (aa R)) (aa R)) (aa R)) (aa R))) (aa R))) (aa R))) (aa R)) (aa R))) (aa R)) (aa R)
def Qd : Prop :=
 (dZ a0).wp K U (fun v1 U =>
 (ah (some 0) v1).wp K U (fun v3 U =>
 (ao aK v3 U).wp K U (fun v4 U =>
 af K 49 [v4] U (ar (fun v5 U =>
 aj R v5 U) (aa R))) (aa R)) (aa R)) (aa R)
def Qe : Prop :=
 (dZ a0).wp K U (fun v1 U =>
 (av.c7 [.ax]).wp K U (fun v2 U =>
 (ah (some 0) v1).wp K U (fun v3 U =>
 (ao aK v3 U).wp K U (fun v4 U =>
 (eJ (some (43, 6)) true .ax v4 U).wp K U (fun v5 U =>
 (c6 (some [(0, 1)]) (some [.ax]) none [(0, v5)]).wp K U (fun v6 U =>
 (aQ (some (true, 1)) v2 v6 U).wp K U (fun _ U =>
 bF (some (true, 1)) v2 U fun r0 =>
 aj R r0 U) (aa R)) (aa R)) (aa R)) (aa R)) (aa R)) (aa R)) (aa R)
end
section
variable {a0 a1 a2 a3 a4 a5 a6 : AV} {R : cB -> St -> Prop} {U : St}
theorem Oq (h : Qs a0 R U) : af K 61 [a0] U R := bh Tryz.f61 Xc h
theorem Ot (h : Qt a0 a1 R U) : af K 65 [a0, a1] U R := bh Tryz.f65 Xd h
theorem Ou (h : Qu a0 a1 R U) : af K 67 [a0, a1] U R := bh Tryz.f67 Xe h
theorem Ov (h : Qv a0 R U) : af K 68 [a0] U R := bh Tryz.f68 Xf h
theorem Ow (h : Qw a0 R U) : af K 69 [a0] U R := bh Tryz.f69 Xg h
theorem Ox (h : Qy a0 R U) : af K 70 [a0] U R := bh Tryz.f70 Xh h
theorem Oy (h : Qz a0 R U) : af K 71 [a0] U R := bh Tryz.f71 Xi h
theorem Oz (h : QA a0 a1 R U) : af K 72 [a0, a1] U R := bh Tryz.f72 Xj h
theorem OA (h : QB a0 R U) : af K 73 [a0] U R := bh Tryz.f73 Xk h
theorem OB (h : QC a0 R U) : af K 74 [a0] U R := bh Tryz.f74 Xl h
theorem OC (h : QD a0 a1 R U) : af K 75 [a0, a1] U R := bh Tryz.f75 Xm h
theorem OD (h : QE a0 a1 R U) : af K 76 [a0, a1] U R := bh Tryz.f76 Xn h
theorem OE (h : QF a0 R U) : af K 77 [a0] U R := bh Tryz.f77 Xo h
theorem OF (h : QG a0 a1 a2 R U) : af K 78 [a0, a1, a2] U R := bh Tryz.f78 Xp h
theorem OG (h : QH a0 a1 R U) : af K 79 [a0, a1] U R := bh Tryz.f79 Xq h
theorem OH (h : QI a0 R U) : af K 80 [a0] U R := bh Tryz.f80 Xr h
theorem OI (h : QJ a0 a1 R U) : af K 81 [a0, a1] U R := bh Tryz.f81 Xs h
theorem OJ (h : QK a0 a1 a2 R U) : af K 82 [a0, a1, a2] U R := bh Tryz.f82 Xt h
theorem OK (h : QL a0 a1 R U) : af K 84 [a0, a1] U R := bh Tryz.f84 Xu h
theorem OL (h : QM a0 a1 R U) : af K 85 [a0, a1] U R := bh Tryz.f85 Xv h
theorem OM (h : QN a0 R U) : af K 89 [a0] U R := bh Tryz.f89 Xw h
theorem ON (h : QO a0 a1 R U) : af K 90 [a0, a1] U R := bh Tryz.f90 Xx h
theorem OO (h : QP a0 a1 a2 R U) : af K 91 [a0, a1, a2] U R := bh Tryz.f91 Xy h
theorem OP (h : QR a0 a1 R U) : af K 92 [a0, a1] U R := bh Tryz.f92 Xz h
theorem OQ (h : Yu a0 a1 R U) : af K 99 [a0, a1] U R := bh Tryz.f99 XA h
theorem JV (h : JU a0 a1 R U) : af K 100 [a0, a1] U R := bh Tryz.f100 SA h
theorem JW (h : VT a0 R U) : af K 101 [a0] U R := bh Tryz.f101 SB h
theorem JX (h : VU a0 a1 R U) : af K 102 [a0, a1] U R := bh Tryz.f102 SC h
theorem JZ (h : JY a0 a1 R U) : af K 103 [a0, a1] U R := bh Tryz.f103 SD h
theorem J0 (h : VV a0 a1 R U) : af K 105 [a0, a1] U R := bh Tryz.f105 SE h
theorem BA (h : DR a0 a1 a2 R U) : af K 106 [a0, a1, a2] U R := bh Tryz.f106 SF h
theorem J2 (h : J1 a0 R U) : af K 109 [a0] U R := bh Tryz.f109 SG h
theorem J4 (h : J3 a0 a1 R U) : af K 121 [a0, a1] U R := bh Tryz.f121 SH h
theorem J6 (h : J5 a0 a1 a2 R U) : af K 122 [a0, a1, a2] U R := bh Tryz.f122 SI h
theorem J8 (h : J7 a0 a1 a2 R U) : af K 131 [a0, a1, a2] U R := bh Tryz.f131 SJ h
theorem Ka (h : J9 a0 a1 R U) : af K 132 [a0, a1] U R := bh Tryz.f132 SK h
theorem Kc (h : Kb a0 a1 R U) : af K 133 [a0, a1] U R := bh Tryz.f133 SL h
theorem Kf (h : Kd a0 R U) : af K 134 [a0] U R := bh Tryz.f134 SM h
theorem Kh (h : Kg a0 R U) : af K 135 [a0] U R := bh Tryz.f135 SN h
theorem Kj (h : Ki a0 R U) : af K 136 [a0] U R := bh Tryz.f136 SO h
theorem Kl (h : Kk a0 R U) : af K 137 [a0] U R := bh Tryz.f137 SP h
theorem Ko (h : Km a0 R U) : af K 138 [a0] U R := bh Tryz.f138 SQ h
theorem Ks (h : Kq a0 R U) : af K 139 [a0] U R := bh Tryz.f139 SR h
theorem Ku (h : Kt a0 a1 R U) : af K 140 [a0, a1] U R := bh Tryz.f140 SS h
theorem Kw (h : Kv a0 R U) : af K 141 [a0] U R := bh Tryz.f141 SU h
theorem Ky (h : Kx a0 R U) : af K 142 [a0] U R := bh Tryz.f142 SV h
theorem KA (h : Kz a0 R U) : af K 143 [a0] U R := bh Tryz.f143 SW h
theorem KD (h : KB a0 R U) : af K 144 [a0] U R := bh Tryz.f144 SX h
theorem KF (h : KE a0 R U) : af K 145 [a0] U R := bh Tryz.f145 SY h
theorem KH (h : KG a0 R U) : af K 146 [a0] U R := bh Tryz.f146 SZ h
theorem KJ (h : KI a0 a1 a2 R U) : af K 147 [a0, a1, a2] U R := bh Tryz.f147 S0 h
theorem KK (h : VW a0 a1 R U) : af K 148 [a0, a1] U R := bh Tryz.f148 S5 h
theorem KM (h : KL a0 R U) : af K 149 [a0] U R := bh Tryz.f149 S6 h
theorem KO (h : KN a0 R U) : af K 150 [a0] U R := bh Tryz.f150 S7 h
theorem KP (h : VX a0 a1 R U) : af K 151 [a0, a1] U R := bh Tryz.f151 S8 h
theorem KT (h : KS a0 R U) : af K 152 [a0] U R := bh Tryz.f152 S9 h
theorem Od (h : Qf a0 R U) : af K 30 [a0] U R := bh Tryz.f30 W0 h
theorem Oe (h : Qg a0 R U) : af K 31 [a0] U R := bh Tryz.f31 W1 h
theorem Of (h : Qh a0 R U) : af K 33 [a0] U R := bh Tryz.f33 W2 h
theorem Og (h : Qi a0 a1 R U) : af K 35 [a0, a1] U R := bh Tryz.f35 W3 h
theorem Oh (h : Qj a0 a1 R U) : af K 38 [a0, a1] U R := bh Tryz.f38 W4 h
theorem Oi (h : Qk a0 a1 R U) : af K 42 [a0, a1] U R := bh Tryz.f42 W5 h
theorem Oj (h : Ql a0 a1 R U) : af K 43 [a0, a1] U R := bh Tryz.f43 W6 h
theorem Ok (h : Qm a0 a1 R U) : af K 44 [a0, a1] U R := bh Tryz.f44 W7 h
theorem Ol (h : Qn a0 a1 R U) : af K 45 [a0, a1] U R := bh Tryz.f45 W8 h
theorem Om (h : Qo a0 a1 R U) : af K 46 [a0, a1] U R := bh Tryz.f46 W9 h
theorem On (h : Qp a0 a1 R U) : af K 47 [a0, a1] U R := bh Tryz.f47 Xa h
theorem Oo (h : Qq a0 R U) : af K 49 [a0] U R := bh Tryz.f49 Xb h
theorem Oa (h : Qc a0 a1 R U) : af K 12 [a0, a1] U R := bh Tryz.f12 WX h
theorem Ob (h : Qd a0 R U) : af K 24 [a0] U R := bh Tryz.f24 WY h
theorem Oc (h : Qe a0 R U) : af K 26 [a0] U R := bh Tryz.f26 WZ h
end
end Go.Rip
