/- Lemmas for the proof: no conditions. -/
import Derived.Test.YtnfpmiiopiinbaaGreatDoorRipZz
import Derived.Test.YtnfpmiiopiinbaaGreatDoorRipD
set_option linter.unusedVariables false
set_option linter.unusedSimpArgs false
set_option linter.loopingSimpArgs false
set_option maxRecDepth 100000
namespace Go.Rip
open Go.Proofs
def Z7 : An := ah (ah (aP (ah (.cd (ah .z) .z)) (ah .z)))
def Z8 : An := ah (ah (aP (ah (.cd (ah (ah (ah (ah (ah .z))))) .z)) (ah (.sq (some [0, 3]) (ah (.cd cY cY)) (ah (ah (.sq (some [0, 3]) (ah (.cd cY .z)) (ah (ah (ah (ah (ah (ah (ah .z))))))))))))))
def Z9 : An := ah (ah (ah (aP (aP (.rg [] [69] none) (.cd (ah .z) .z)) (ah .z))))
def aaa : An := ah (aP (ah (ah (.cd (ah .z) .z))) (ah (ah .z)))
def aab : An := ah (ah (aP (ah (.cd (ah (ah (ah (ah (ah .z))))) .z)) (.sq (some [0, 3]) (ah (.cd cY cY)) (ah (ah (ah (.sq (some [0, 3, 5]) (ah (.cd (ah (aP (.bk (.lp [0, 3, 5] (aP (ah (.cd .z .z)) (.bk cY)))) cY)) .z)) (ah (ah (ah (ah (ah (ah .z)))))))))))))
def aac : An := ah (aP (aP (.rg [] [] (some ⟨[(true, 0), (true, 1), (true, 2), (true, 3), (true, 4), (true, 5), (true, 6), (true, 7), (true, 8), (true, 9)], [⟨32, 1, 0⟩, ⟨64, 32, 1⟩, ⟨128, 64, 2⟩, ⟨256, 128, 4⟩, ⟨512, 1, 0⟩, ⟨1024, 512, 16⟩, ⟨2048, 1024, 32⟩, ⟨4096, 2048, 64⟩, ⟨8192, 4096, 128⟩, ⟨16384, 8448, 264⟩]⟩)) (.cd (aP (.rg [] [] (some ⟨[(true, 0), (true, 1), (true, 2), (true, 3), (true, 4), (true, 5), (true, 6), (true, 7), (true, 8), (true, 9), (true, 10), (true, 11), (false, 12)], [⟨32768, 1, 0⟩, ⟨65536, 32768, 1⟩, ⟨131072, 65536, 2⟩, ⟨262144, 131072, 4⟩, ⟨524288, 1, 0⟩, ⟨1048576, 524288, 16⟩, ⟨2097152, 1048576, 32⟩, ⟨4194304, 2097152, 64⟩, ⟨8388608, 4456448, 136⟩, ⟨16777216, 8388608, 256⟩, ⟨33554432, 16777216, 512⟩, ⟨67108864, 33554432, 1024⟩, ⟨0, 67108880, 4095⟩]⟩)) .z) .z)) (ah .z))
def aad : An := aP (.rg [2, 4] [] none) (aP (.rg [7] [] none) (aP (.rg [5, 8, 9] [] none) (aP (aP (.rg [6] [] none) (.bk (.lp [1, 5, 6] (aP (aP (.rg [10, 11, 12, 13] [] none) (.cd .z .z)) (aP (.bk (.rg [5, 16, 17, 18, 19, 20, 21] [] none)) (.rg [6, 14, 15] [] none)))))) (aP (.rg [22, 23, 24, 25, 26] [] none) (aP (.rg [4, 27] [] none) .z)))))
def aae : An := ah (ah .z)
def aaf : An := ah (ah (aP (ah (.bk (.lp [0, 1, 5, 6] (aP (ah (.cd .z .z)) (aP (.bk cY) cY))))) (ah .z)))
def aag : An := aP (.rg [1, 2] [] none) (aP (.rg [3] [] none) (aP (aP (.rg [7, 8, 9, 10] [] none) (.bk (.lp [1, 2, 3, 8, 9, 10] (aP (.rg [11] [] none) (aP (.cd .z .z) (aP (.bk (aP (.rg [4, 5, 12, 13, 14] [] none) (aP (.rg [3, 15, 16, 17] [] none) (aP (aP (.rg [18, 19, 20] [] none) (.cd (aP (.rg [2] [] none) .z) .z)) (.rg [3, 21, 22, 23, 24, 25, 26, 27] [] none))))) (.rg [10, 28] [] none))))))) (aP (.rg [6] [] none) (aP (aP (.rg [29, 30, 31] [] none) (.bk (.rf .z (.bk (.rg [33, 34] [] none))))) (aP (.rg [2, 35, 36] [] none) .z)))))
def aah : An := ah (aP (ah (.cd (ah .z) .z)) (aP (ah (.bk (.lp [0, 3] (aP (ah (.cd .z .z)) (aP (.bk (ah (.cd (ah .z) .z))) cY))))) (aP (ah (.bk (.lp [0, 4] (aP (ah (.cd .z .z)) (aP (.bk (ah (aP (.bk (.lp [0, 4, 5] (aP (ah (.cd .z .z)) (.bk cY)))) (ah (.cd (ah .z) .z))))) cY))))) (ah .z))))
def aai : An := ah (aP (aP (.rg [] [] (some ⟨[(true, 0), (true, 1), (true, 2), (true, 3), (true, 4), (true, 5), (true, 6), (true, 7), (true, 8), (true, 9), (true, 10), (true, 11), (true, 12), (true, 13), (true, 14), (true, 15), (true, 16), (true, 17)], [⟨8, 2, 0⟩, ⟨16, 8, 1⟩, ⟨32, 16, 2⟩, ⟨64, 2, 0⟩, ⟨128, 64, 8⟩, ⟨256, 128, 16⟩, ⟨512, 288, 36⟩, ⟨1024, 512, 68⟩, ⟨2048, 1026, 128⟩, ⟨4096, 3072, 384⟩, ⟨8192, 5120, 640⟩, ⟨16384, 9216, 1152⟩, ⟨32768, 16386, 2048⟩, ⟨65536, 49152, 6144⟩, ⟨131072, 81920, 10240⟩, ⟨262144, 147456, 18432⟩, ⟨524288, 279552, 34944⟩, ⟨1048576, 525312, 65664⟩]⟩)) (.cd (ah .z) .z)) (aP (aP (.rg [] [136, 137] none) (.cd (ah .z) .z)) (aP (.rg [] [137] none) .z)))
def aaj : An := ah (ah (aP (ah (.bk (ah (.cd (ah .z) (.sq (some [1, 5, 8, 13]) (ah (.cd .z cY)) (.cd (aP (.rg [] [139] none) .z) (.sq (some [1, 5, 8, 24]) (ah (.cd .z cY)) (.cd (aP (.rg [] [140, 141, 142] none) .z) (ah (.cd (aP (.rg [] [143] none) .z) (ah (.cd (aP (.rg [] [144] none) .z) (ah (.cd (aP (.rg [] [144] none) .z) (.sq (some [1, 5, 8, 76]) (ah (.cd .z (ah (.cd .z (ah (.cd .z (ah (.cd .z (ah (.cd .z (ah (.cd .z (ah (.cd .z (ah (.cd .z (ah (.cd .z cY)))))))))))))))))) (.cd (aP (.rg [] [144] none) .z) (.sq (some [1, 5, 8, 93]) (ah (.cd .z (ah (.cd .z (ah (.cd .z (ah (.cd .z cY)))))))) (.cd (aP (.rg [] [144] none) .z) (ah (.cd (aP (.rg [] [145] none) .z) (ah (.cd (aP (.rg [] [140, 142] none) .z) (ah (.cd (aP (.rg [] [142] none) .z) (.sq (some [5, 154]) (ah (.cd .z (ah (.cd .z (ah (.cd .z (ah (.cd .z (ah (.cd .z (ah (.cd .z (ah (.cd .z (ah (.cd .z (ah (.cd .z (ah (.cd .z cY)))))))))))))))))))) (.cd (ah .z) .z)))))))))))))))))))))))))) (ah .z)))
def aak : An := aP (.rg [2] [] none) (aP (.rg [3, 7, 8, 9] [] none) (aP (aP (.rg [4] [] none) (.bk (.lp [0, 3, 4] (aP (aP (.rg [10, 11, 12, 13] [] none) (.cd .z .z)) (aP (.bk (aP (.rg [5, 16, 17, 18] [] none) (aP (.rg [6] [] none) (.bk (.lp [0, 3, 4, 5, 6] (aP (aP (.rg [19, 20, 21, 22] [] none) (.cd .z .z)) (aP (.bk (.rg [25, 26, 27, 28, 29, 30, 31, 32, 33, 34, 35] [] (some ⟨[(true, 0), (true, 1), (true, 2), (true, 3), (true, 4), (true, 5), (true, 6), (true, 7), (true, 8), (true, 9), (true, 10), (false, 11)], [⟨33554432, 8, 0⟩, ⟨67108864, 32, 0⟩, ⟨134217728, 64, 0⟩, ⟨268435456, 201326592, 6⟩, ⟨536870912, 268435456, 8⟩, ⟨1073741824, 8, 0⟩, ⟨2147483648, 16, 0⟩, ⟨4294967296, 3221225472, 96⟩, ⟨8589934592, 4294967296, 128⟩, ⟨17179869184, 8589934592, 256⟩, ⟨34359738368, 570425344, 1023⟩, ⟨0, 51539607552, 2047⟩]⟩))) (.rg [6, 23, 24] [] none)))))))) (.rg [4, 14, 15] [] none)))))) (aP (.rg [2, 36] [] none) .z)))
def aal : An := ah (aP (ah (.cd (ah .z) .z)) (aP (ah (.bk (.lp [0, 9, 10] (ah (aP (.cd .z .z) (aP (.bk (ah (ah (.cd (ah .z) .z)))) cY)))))) (ah .z)))
def aam : An := ah (ah .z)
def aan : An := ah (ah .z)
def aao : An := ah (ah (aP (.bk (ah (.cd (ah .z) (ah (.cd (ah .z) (ah (.cd (ah .z) (ah (.cd (ah .z) (ah (.cd (ah .z) .z))))))))))) (ah .z)))
def aap : An := ah (aP (.rg [] [] (some ⟨[(true, 0), (true, 1), (true, 2), (true, 3), (true, 4), (true, 5), (true, 6), (true, 7), (true, 8), (false, 9), (false, 10)], [⟨64, 8, 0⟩, ⟨128, 4, 0⟩, ⟨256, 128, 2⟩, ⟨512, 256, 4⟩, ⟨1024, 8, 0⟩, ⟨2048, 1536, 24⟩, ⟨4096, 2048, 32⟩, ⟨8192, 4096, 64⟩, ⟨16384, 8256, 129⟩, ⟨32, 0, 0⟩, ⟨0, 16416, 1023⟩]⟩)) (ah .z))
def aaq : An := ah (ah .z)
def VD : An := ah (aP (ah (.cd (ah .z) .z)) (ah (ah .z)))
def VE : An := ah (ah .z)
def VF : An := ah (.cd cY .z)
def VG : An := ah (ah (ah .z))
def VH : An := ah (aP (ah (.cd (ah .z) .z)) (ah (ah (ah (ah (ah (ah .z)))))))
def VI : An := ah (ah .z)
def VJ : An := ah (.bk (.lp [0, 1, 2] (aP (ah (.cd .z .z)) (.bk cY))))
def VK : An := ah (ah (ah (ah (ah .z))))
def VL : An := ah (ah (.sq (some [3]) (.bk (ah (.cd cY (ah (.cd cY (ah (.cd cY (ah cY)))))))) (ah .z)))
def VM : An := ah (ah (ah (ah (.sq (some [3, 4]) (.bk (.lp [0, 3, 4] (aP (ah (.cd .z .z)) (.bk (aP (ah (aP (.rg [] [61] none) (.cd .z .z))) (ah cY)))))) (aP (ah (.cd (ah .z) .z)) (ah .z))))))
def VN : An := aP (.rg [2] [] none) (aP (.rg [3, 6, 7, 8, 9, 10] [] none) (aP (aP (.rg [11, 12, 13, 14, 15, 16] [] none) (.bk (.lp [3, 14, 15, 16] (aP (.rg [17] [] none) (aP (.cd .z .z) (aP (.bk (aP (.rg [5, 18, 19] [] none) (.rg [3, 20, 21, 22, 23] [] none))) (.rg [16, 24] [] none))))))) (aP (.rg [25, 26, 27, 28, 29] [] none) (aP (.rg [2, 30] [] none) .z))))
def VO : An := ah (aP (ah (.cd (ah .z) .z)) (aP (ah (.bk (.lp [0, 4] (aP (ah (.cd .z .z)) (aP (.bk (ah (.cd (ah .z) .z))) cY))))) (ah .z)))
def VP : An := ah (ah (ah (aP (.bk (.lp [0, 6, 7, 8] (aP (ah (.cd .z .z)) (.bk (aP (ah (.cd (ah .z) .z)) (aP (ah (.cd (ah (ah (ah .z))) .z)) (ah (.sq (some [0, 6, 7, 8, 10, 11]) (ah (.cd cY .z)) (aP (ah (.cd (ah .z) .z)) (ah cY)))))))))) (ah .z))))
def VQ : An := ah (aP (aP (.rg [] [] (some ⟨[(true, 0), (true, 1), (true, 2), (true, 3), (true, 4), (true, 5), (true, 6), (true, 7), (true, 8), (true, 9)], [⟨8, 1, 0⟩, ⟨16, 8, 1⟩, ⟨32, 16, 2⟩, ⟨64, 32, 4⟩, ⟨128, 1, 0⟩, ⟨256, 128, 16⟩, ⟨512, 256, 32⟩, ⟨1024, 512, 64⟩, ⟨2048, 1024, 128⟩, ⟨4096, 2112, 264⟩]⟩)) (.cd (aP (.rg [] [] (some ⟨[(true, 0), (true, 1), (true, 2), (true, 3), (true, 4), (true, 5), (true, 6), (true, 7), (true, 8), (true, 9), (true, 10), (true, 11)], [⟨8192, 1, 0⟩, ⟨16384, 8192, 1⟩, ⟨32768, 16384, 2⟩, ⟨65536, 32768, 4⟩, ⟨131072, 1, 0⟩, ⟨262144, 131072, 16⟩, ⟨524288, 262144, 32⟩, ⟨1048576, 524288, 64⟩, ⟨2097152, 1114112, 136⟩, ⟨4194304, 2097152, 256⟩, ⟨8388608, 4194304, 512⟩, ⟨4, 8388608, 2047⟩]⟩)) .z) .z)) (ah .z))
def VR : An := ah (aP (ah (.cd (ah .z) .z)) (ah (ah .z)))
def VS : An := ah (aP (ah (.cd (ah (ah .z)) .z)) (ah (aP (.rg [] [] (some ⟨[(true, 0), (true, 1), (true, 2), (true, 3), (true, 4), (true, 5), (true, 6), (true, 7), (true, 8), (true, 9), (true, 10), (true, 11), (true, 12)], [⟨65536, 1, 0⟩, ⟨131072, 65536, 1⟩, ⟨262144, 131072, 2⟩, ⟨524288, 262144, 4⟩, ⟨1048576, 1, 0⟩, ⟨2097152, 1048576, 16⟩, ⟨4194304, 2097152, 32⟩, ⟨8388608, 4194304, 64⟩, ⟨16777216, 8388608, 128⟩, ⟨33554432, 17301504, 264⟩, ⟨67108864, 33554432, 512⟩, ⟨134217728, 67108864, 1024⟩, ⟨4, 134217728, 4095⟩]⟩)) .z)))
def VT : An := ah (ah (aP (ah (.cd (ah (ah .z)) .z)) (ah (ah .z))))
def VU : An := ah (ah (aP (ah (.cd (ah .z) .z)) (ah (aP (.bk (.lp [0, 3, 4] (aP (ah (.cd .z .z)) (.bk cY)))) (ah (ah (ah .z)))))))
def VV : An := ah (ah (ah (ah (ah .z))))
def VW : An := ah (ah (aP (.bk (ah (.cd (ah .z) (ah (.cd (ah .z) (ah (.cd (ah .z) .z))))))) (ah (ah .z))))
def VX : An := ah (ah (.sq (some [3, 4, 5]) (.bk (.lp [0, 3, 4, 5] (aP (aP (.rb [] ⟨[(true, 0), (false, 1), (true, 2), (true, 3), (true, 4), (true, 5), (true, 6), (true, 7), (true, 8), (true, 9), (true, 10), (true, 11), (true, 12), (true, 13), (true, 14)], [⟨1024, 1, 0⟩, ⟨2048, 1024, 1⟩, ⟨4096, 2048, 2⟩, ⟨8192, 4097, 4⟩, ⟨16384, 12288, 12⟩, ⟨32768, 20480, 20⟩, ⟨65536, 36864, 36⟩, ⟨131072, 69632, 68⟩, ⟨262144, 4097, 4⟩, ⟨524288, 266240, 260⟩, ⟨1048576, 528384, 516⟩, ⟨2097152, 1052672, 1028⟩, ⟨4194304, 2101248, 2052⟩, ⟨8388608, 4329472, 4228⟩, ⟨16777216, 8392704, 8196⟩]⟩) (.cd .z .z)) (.bk (ah (ah (aP (ah (.cd (ah .z) .z)) (.sq (some [0, 3, 4, 5]) (ah (.cd cY .z)) (ah cY))))))))) (aP (ah (.cd (ah .z) .z)) (ah .z))))
def VY : An := ah (aP (.rg [] [178] none) .z)
def VZ : An := ah (ah (aP (ah (.cd (ah .z) .z)) (aP (ah (.bk (.lp [0, 1, 5, 6] (aP (ah (.cd .z .z)) (.sq (some [0, 1, 5, 6]) (.bk (ah (ah (.cd (ah cY) .z)))) cY))))) (ah (ah .z)))))
def V4 : An := ah (ah .z)
def V5 : An := ah (aP (ah (.bk (.sq (some [4]) (ah (.cd .z (ah (.cd .z (ah (.cd .z (ah (.cd .z (ah (.cd .z (ah (.cd .z (ah (.cd .z (ah (.cd .z (ah (.cd .z (ah (.cd .z (ah (.cd .z (ah (.cd .z cY)))))))))))))))))))))))) (.cd (ah .z) .z)))) (ah .z))
def V6 : An := ah (ah .z)
def V7 : An := ah (ah .z)
def V8 : An := ah (ah .z)
def V9 : An := ah (aP (ah (.bk (.lp [0, 3] (aP (ah (.cd .z .z)) (aP (.bk (ah (.cd (ah .z) .z))) cY))))) (ah .z))
def Wa : An := ah (ah .z)
def Wb : An := ah (aP (ah (.bk (.lp [0, 1, 5] (aP (ah (.cd .z .z)) (aP (.bk (ah (.cd (ah .z) .z))) cY))))) (ah .z))
def Wc : An := ah (ah .z)
def Wd : An := ah (ah .z)
def We : An := ah (aP (ah (.bk (.lp [0, 3] (aP (ah (.cd .z .z)) (aP (.bk (ah (.cd (ah .z) .z))) cY))))) (ah .z))
def Wf : An := ah (aP (ah (.bk (.lp [0, 3] (aP (ah (.cd .z .z)) (aP (.bk (ah (.cd (ah .z) .z))) cY))))) (ah .z))
def Wg : An := ah (aP (ah (.bk (.lp [0, 3] (aP (ah (.cd .z .z)) (aP (.bk (ah (.cd (ah .z) .z))) cY))))) (ah .z))
def Wh : An := ah (ah .z)
def Wi : An := ah (.bk (.lp [0, 1, 2, 4] (aP (ah (.cd .z .z)) (.bk (ah (.bk (.sq (some [0, 1, 2, 4, 14, 24]) (ah (.cd .z cY)) (.cd cY (ah (.cd (ah (aP (ah (.cd .z .z)) cY)) (aP (ah (.cd .z .z)) cY)))))))))))
def Wj : An := ah (ah .z)
def Wl : An := ah (aP (.bk (.lp [0, 2] (aP (aP (.rg [] [151] none) (.cd .z .z)) (.bk cY)))) (ah .z))
def Wm : An := ah (aP (ah (.bk (.lp [0, 2, 6, 7] (ah (aP (.cd .z .z) (aP (.bk (ah (ah (.cd (ah .z) .z)))) cY)))))) (aP (aP (.rg [] [214] none) (.cd (ah .z) .z)) (ah .z)))
def Wn : An := ah (ah .z)
def Wo : An := ah (ah (aP (ah (.bk (.lp [0, 3, 6, 7] (ah (aP (.cd .z .z) (aP (.bk (ah (aP (ah (.cd (ah .z) .z)) cY))) cY)))))) (aP (.bk (ah (.cd (ah .z) (ah (.cd (ah .z) .z))))) (ah .z))))
def Z4 : An := ah (ah (aP (ah (.cd (ah .z) .z)) (aP (ah (.cd (ah .z) .z)) (aP (ah (.bk (.lp [3, 4] (aP (ah (.cd .z .z)) (aP (.bk (ah (ah (aP (ah (.bk (.lp [3, 4, 5, 6, 7] (aP (ah (.cd .z .z)) (aP (.bk cY) cY))))) (aP (.rg [] [71, 72] none) (.cd (ah .z) .z)))))) cY))))) (ah (aP (ah (.bk (.lp [3, 8, 9] (aP (ah (.cd .z .z)) (aP (.bk (ah (.cd (ah .z) .z))) cY))))) (aP (ah (.cd (ah .z) .z)) (ah .z))))))))
def Z5 : An := ah (aP (ah (ah (.cd (ah .z) .z))) (ah (ah (aP (ah (.bk (.rf (ah cY) (.bk (aP (ah (.cd .z .z)) (ah (.sq (some [2, 3, 4, 7, 9, 11, 12]) (ah (.cd cY .z)) (aP (ah (.cd (ah .z) .z)) (ah cY))))))))) (ah .z)))))
def Z6 : An := ah (aP (ah (.cd (ah .z) .z)) (aP (ah (.bk (.lp [0, 1, 5] (aP (ah (.cd .z .z)) (aP (.bk (aP (.rg [] [] (some ⟨[(true, 0), (true, 1), (true, 2), (true, 3), (true, 4), (true, 5), (true, 6), (true, 7), (true, 8)], [⟨131072, 1, 0⟩, ⟨262144, 32, 0⟩, ⟨524288, 393216, 3⟩, ⟨1048576, 524288, 4⟩, ⟨2097152, 2, 0⟩, ⟨4194304, 32, 0⟩, ⟨8388608, 6291456, 48⟩, ⟨16777216, 8388608, 64⟩, ⟨33554432, 17825792, 136⟩]⟩)) (.cd (ah .z) .z))) cY))))) (ah .z)))
def abB : An := ah (aP (ah (.cd (ah .z) .z)) (ah (ah (ah (ah (aP (.rg [] [17, 22, 23] none) .z))))))
def ZY : An := ah (ah (aP (ah (.cd (ah .z) .z)) (ah (aP (.bk (.lp [2, 5, 8] (aP (aP (.rg [] [] (some ⟨[(true, 0), (true, 1), (true, 2), (true, 3), (true, 4), (true, 5), (true, 6), (true, 7), (true, 8), (true, 9)], [⟨16777216, 32, 0⟩, ⟨33554432, 16777216, 1⟩, ⟨67108864, 33554432, 2⟩, ⟨134217728, 67108864, 4⟩, ⟨268435456, 32, 0⟩, ⟨536870912, 268435456, 16⟩, ⟨1073741824, 536870912, 32⟩, ⟨2147483648, 1073741824, 64⟩, ⟨4294967296, 2147483648, 128⟩, ⟨8589934592, 4429185024, 264⟩]⟩)) (.cd .z .z)) (.bk (ah (aP (ah (.cd (ah .z) .z)) cY)))))) (ah (ah .z))))))
def ZZ : An := ah (ah (aP (ah (.cd (ah .z) .z)) (ah (ah (aP (.bk (.lp [0, 2, 5, 8, 9] (aP (ah (.cd .z .z)) (.bk (ah (ah (.cd (ah .z) .z))))))) (ah (aP (ah (ah (.cd (ah .z) .z))) (ah .z))))))))
def Z0 : An := ah (ah (aP (ah (.cd (ah .z) .z)) (ah (ah (aP (.bk (.lp [2, 5, 8, 9] (aP (aP (.rg [] [] (some ⟨[(true, 0), (true, 1), (true, 2), (true, 3), (true, 4), (true, 5), (true, 6), (true, 7), (true, 8), (true, 9)], [⟨33554432, 32, 0⟩, ⟨67108864, 33554432, 1⟩, ⟨134217728, 67108864, 2⟩, ⟨268435456, 134217728, 4⟩, ⟨536870912, 32, 0⟩, ⟨1073741824, 536870912, 16⟩, ⟨2147483648, 1073741824, 32⟩, ⟨4294967296, 2147483648, 64⟩, ⟨8589934592, 4294967296, 128⟩, ⟨17179869184, 8858370048, 264⟩]⟩)) (.cd .z .z)) (.bk (ah (ah (aP (ah (.cd (ah .z) .z)) (ah (ah (.bk (.lp [2, 5, 8, 9] (aP (aP (.rg [] [] (some ⟨[(true, 0), (true, 1), (true, 2), (true, 3), (true, 4), (true, 5), (true, 6), (true, 7), (true, 8), (true, 9), (true, 10), (true, 11), (true, 12), (true, 13), (true, 14), (true, 15), (true, 16), (true, 17), (true, 18), (true, 19), (true, 20), (true, 21), (true, 22), (true, 23)], [⟨147573952589676412928, 32, 0⟩, ⟨295147905179352825856, 147573952589676412928, 1⟩, ⟨590295810358705651712, 295147905179352825856, 2⟩, ⟨1180591620717411303424, 590295810358705651712, 4⟩, ⟨2361183241434822606848, 32, 0⟩, ⟨4722366482869645213696, 2361183241434822606848, 16⟩, ⟨9444732965739290427392, 4722366482869645213696, 32⟩, ⟨18889465931478580854784, 9444732965739290427392, 64⟩, ⟨37778931862957161709568, 18889465931478580854784, 128⟩, ⟨75557863725914323419136, 38959523483674573012992, 264⟩, ⟨151115727451828646838272, 75557863725914323419136, 512⟩, ⟨302231454903657293676544, 151115727451828646838304, 1024⟩, ⟨604462909807314587353088, 453347182355485940514816, 3072⟩, ⟨1208925819614629174706176, 755578637259143234191360, 5120⟩, ⟨2417851639229258349412352, 1360041547066457821544448, 9216⟩, ⟨4835703278458516698824704, 151115727451828646838304, 1024⟩, ⟨9671406556917033397649408, 4986819005910345345662976, 33792⟩, ⟨19342813113834066795298816, 9822522284368862044487680, 66560⟩, ⟨38685626227668133590597632, 19493928841285895442137088, 132096⟩, ⟨77371252455336267181195264, 41254593594349220586848256, 279552⟩, ⟨154742504910672534362390528, 77522368182788095828033536, 525312⟩, ⟨309485009821345068724781056, 154893620638124363009228800, 1049600⟩, ⟨618970019642690137449562112, 309636125548796897371619328, 2098176⟩, ⟨1237940039285380274899124224, 619121135370141966096400384, 4195328⟩]⟩)) (.cd .z .z)) (.bk cY))))))))))))) (ah (aP (ah (.cd (ah .z) .z)) (ah .z))))))))
def Z1 : An := ah (ah (aP (ah (.cd (ah .z) .z)) (ah (ah (aP (ah (.bk (.lp [0, 2, 5, 8, 9, 10] (aP (ah (.cd .z .z)) (.bk (ah (ah (aP (ah (.cd (aP (.rg [] [] (some ⟨[(true, 0), (true, 1), (true, 3), (true, 4), (true, 5), (true, 6), (false, 2), (true, 7), (true, 8)], [⟨1099511627776, 256, 0⟩, ⟨2199023255552, 4096, 0⟩, ⟨4398046511104, 3298534883328, 3⟩, ⟨8796093022208, 2048, 0⟩, ⟨17592186044416, 8796093022208, 8⟩, ⟨35184372088832, 17592186044416, 16⟩, ⟨70368744177664, 35184372088832, 32⟩, ⟨256, 4398046511104, 7⟩, ⟨1024, 70368744177664, 255⟩]⟩)) .z) .z)) (ah (ah (.bk (.lp [0, 2, 5, 8, 9, 10] (aP (ah (.cd .z .z)) (.bk cY)))))))))))))) (ah (aP (ah (ah (.cd (ah .z) .z))) (ah .z))))))))
def Z2 : An := ah (ah .z)
def Z3 : An := ah (aP (ah (.cd (ah .z) .z)) (aP (ah (.bk (.lp [0, 1, 5] (aP (ah (.cd .z .z)) (aP (.bk (aP (.rg [] [] (some ⟨[(true, 0), (true, 1), (true, 2), (true, 3), (true, 4), (true, 5), (true, 6), (true, 7), (true, 8)], [⟨131072, 1, 0⟩, ⟨262144, 32, 0⟩, ⟨524288, 393216, 3⟩, ⟨1048576, 524288, 4⟩, ⟨2097152, 2, 0⟩, ⟨4194304, 32, 0⟩, ⟨8388608, 6291456, 48⟩, ⟨16777216, 8388608, 64⟩, ⟨33554432, 17825792, 136⟩]⟩)) (.cd (ah .z) .z))) cY))))) (ah .z)))
section
variable (a0 a1 a2 a3 a4 a5 a6 : AV) (R : cS -> St -> Prop) (U : St)
def TX : Prop :=
 ad K 33 [a0] U (ai (fun v10 U =>
 (aX v10 0).wp K U (fun v11 U =>
 (aX v10 1).wp K U (fun v12 U =>
 (aX v10 2).wp K U (fun bN U =>
 (aq .neq aG true bN (.int .i64 0)).wp K U (fun bw U =>
 ao bw (
 al R (.aU [.bj, v12, bN]) U) (
 (bD (some true) a0).wp K U (fun v20 U =>
 ad K 96 [] U (ai (fun v21 U =>
 ad K 97 [] U (ai (fun bY U =>
 (bE (some [(0, 1), (1, 1), (2, 1), (3, 1), (4, 1)]) (some [.ak, .int .i64 0, .int .i64 0, .kx, .kx]) none [(0, v11), (2, v20), (3, v21), (4, bY)]).wp K U (fun cR U =>
 (jb cR).wp K U (fun v24 U =>
 al R (.aU [v24, (.int .i64 0), (.int .i64 0)]) U) (aa R)) (aa R)) (aa R))) (aa R))) (aa R))) (aa R)) (aa R)) (aa R)) (aa R)) (aa R))
def TY : Prop :=
 ad K 99 [a0, (.int .u8 2)] U (ai (fun v5 U =>
 ad K 100 [a0, (.str fA)] U (ai (fun v7 U =>
 ao v7 (
 ad K 101 [a0] U (ai (fun v10 U =>
 (aI v5).wp K U (fun v11 U =>
 (ag (some 0) v11).wp K U (fun v12 U =>
 (ag (some 1) v12).wp K U (fun bN U =>
 (aD aQ bN v10 U).wp K U (fun _ U =>
 ad K 102 [a0, (.str ja)] U (ai (fun bw U =>
 ad K 104 [a0] U (ai (fun ck U =>
 (aA (some (87, 1)) (some [.bj]) 1 false [(0, ck)]).wp K U (fun cn U =>
 ad K 103 [v5, cn] U (ai (fun v20 U =>
 ad K 102 [a0, (.str gE)] U (ai (fun bY U =>
 al R v5 U) (aa R))) (aa R))) (aa R)) (aa R))) (aa R))) (aa R)) (aa R)) (aa R)) (aa R)) (aa R))) (
 (aI v5).wp K U (fun dz U =>
 (ag (some 0) dz).wp K U (fun df U =>
 (ag (some 0) df).wp K U (fun di U =>
 (aD aQ di (.int .u8 4) U).wp K U (fun _ U =>
 gb 2 (fun v0 v3 U =>
 ad K 101 [v0] U (ai (fun eL U =>
 (aI v3).wp K U (fun gn U =>
 (ag (some 0) gn).wp K U (fun v40 U =>
 (ag (some 1) v40).wp K U (fun gT U =>
 (aD aQ gT eL U).wp K U (fun _ U =>
 ad K 102 [v0, (.str fR)] U (ai (fun eJ U =>
 gb 2 (fun fD fI U =>
 ad K 102 [fD, (.str eF)] U (ai (fun iQ U =>
 ad K 102 [fD, (.str ja)] U (ai (fun lE U =>
 ad K 108 [fD] U (ai (fun v59 U =>
 (aA (some (87, 1)) (some [.bj]) 1 false [(0, v59)]).wp K U (fun jY U =>
 ad K 103 [fI, jY] U (ai (fun tZ U =>
 ad K 102 [fD, (.str lJ)] U (ai (fun jZ U =>
 ad K 109 [fD] U (ai (fun qt U =>
 (aA (some (87, 1)) (some [.bj]) 1 false [(0, qt)]).wp K U (fun pP U =>
 ad K 103 [fI, pP] U (ai (fun lF U =>
 ad K 102 [fD, (.str gE)] U (ai (fun v70 U =>
 al R fI U) (aa R))) (aa R))) (aa R)) (aa R))) (aa R))) (aa R))) (aa R)) (aa R))) (aa R))) (aa R))) fun tL =>
 (aA (some (9, 1)) (some [.str []]) 1 false [(0, (.str eF))]).wp K U (fun ig U =>
 ad K 105 [v0, ig] U (ai (fun v46 U =>
 (fZ .not v46).wp K U (fun jH U =>
 ao jH (
 ad K 106 [v0, v3, (.func (.func 107) [v0] [])] U (ai (fun iD U =>
 tL v0 v3 U) (aa R))) (
 tL v0 v3 U)) (aa R)) (aa R))) (aa R)) (aa R))) (aa R)) (aa R)) (aa R)) (aa R)) (aa R))) fun j =>
 ad K 100 [a0, (.str jS)] U (ai (fun cO U =>
 ao cO (
 (aI v5).wp K U (fun v31 U =>
 (ag (some 0) v31).wp K U (fun ep U =>
 (ag (some 0) ep).wp K U (fun dY U =>
 (aD aQ dY (.int .u8 3) U).wp K U (fun _ U =>
 j a0 v5 U) (aa R)) (aa R)) (aa R)) (aa R)) (
 ad K 102 [a0, (.str ff)] U (ai (fun ef U =>
 j a0 v5 U) (aa R)))) (aa R))) (aa R)) (aa R)) (aa R)) (aa R))) (aa R))) (aa R))
def TZ : Prop :=
 (aw.cJ [.ak]).wp K U (fun v2 U =>
 (bE (some [(0, 1), (1, 1), (2, 1), (3, 1), (4, 1), (5, 1)]) (some [.int .u8 0, .str [], .int .i64 0, .int .i64 0, .int .i64 0, .int .i64 0]) none [(0, (.int .u8 1))]).wp K U (fun v6 U =>
 (bE (some [(0, 6), (6, 1)]) (some [.int .u8 0, .str [], .int .i64 0, .int .i64 0, .int .i64 0, .int .i64 0, .ak]) none [(0, v6), (1, a0)]).wp K U (fun v8 U =>
 (jb v8).wp K U (fun v9 U =>
 ad K 110 [v9] U (ai (fun v11 U =>
 (bE (some [(0, 1)]) (some [.ak]) none [(0, v11)]).wp K U (fun v12 U =>
 (aw.cJ [.ak]).wp K U (fun v5 U =>
 (aD (some (true, 1)) v5 v12 U).wp K U (fun _ U =>
 (ag (some 0) v5).wp K U (fun bN U =>
 (av aQ bN U).wp K U (fun bS U =>
 (bD (some false) bS).wp K U (fun bw U =>
 (aq .gtr aG true bw (.int .i64 900)).wp K U (fun ca U =>
 ae K (au ca false) (av (some (true, 1)) v5 U) (fun ck =>
 ae K (au ca false) (aw.enter 69 [ck]) (fun cn =>
 (aY ca (.bool true) cn).wp K U (fun v20 U =>
 ao v20 (
 (bE (some [(0, 1)]) (some [.ak]) none []).wp K U (fun v21 U =>
 (aD (some (true, 1)) v2 v21 U).wp K U (fun _ U =>
 bL (some (true, 1)) v2 U fun r0 =>
 al R (.aU [r0, (.int .i64 5)]) U) (aa R)) (aa R)) (
 (av (some (true, 1)) v5 U).wp K U (fun bY U =>
 (aD (some (true, 1)) v2 bY U).wp K U (fun _ U =>
 bL (some (true, 1)) v2 U fun lr =>
 al R (.aU [lr, (.int .i64 0)]) U) (aa R)) (aa R))) (aa R)))) (aa R)) (aa R)) (aa R)) (aa R)) (aa R)) (aa R)) (aa R)) (aa R))) (aa R)) (aa R)) (aa R)) (aa R)
def T0 : Prop :=
 ad K 111 [a0] U (ai (fun bN U =>
 (aX bN 0).wp K U (fun bS U =>
 (aX bN 1).wp K U (fun bw U =>
 (aq .neq aG true bw (.int .i64 0)).wp K U (fun cm U =>
 ao cm (
 al R (.aU [.ak, bS, bw]) U) (
 ad K 112 [a0] U (ai (fun bY U =>
 (aX bY 0).wp K U (fun cR U =>
 (aX bY 1).wp K U (fun v24 U =>
 (aX bY 2).wp K U (fun dz U =>
 (aX bY 3).wp K U (fun df U =>
 al R (.aU [cR, dz, df]) U) (aa R)) (aa R)) (aa R)) (aa R)) (aa R)))) (aa R)) (aa R)) (aa R)) (aa R))
def T1 : Prop :=
 ad K 113 [a0] U (ai (fun v9 U =>
 (bE (some [(0, 1), (1, 1), (2, 1), (3, 1), (4, 1), (5, 1)]) (some [.int .u8 0, .str [], .int .i64 0, .int .i64 0, .int .i64 0, .int .i64 0]) none [(0, (.int .u8 4)), (4, v9)]).wp K U (fun v10 U =>
 (aw.cJ [.int .u8 0, .str [], .int .i64 0, .int .i64 0, .int .i64 0, .int .i64 0]).wp K U (fun v3 U =>
 (aD (some (true, 6)) v3 v10 U).wp K U (fun _ U =>
 ad K 114 [a0, (.str fA)] U (ai (fun v12 U =>
 ao v12 (
 ad K 115 [a0] U (ai (fun bS U =>
 (ag (some 0) v3).wp K U (fun bw U =>
 (aD aQ bw (.int .u8 2) U).wp K U (fun _ U =>
 (ag (some 1) v3).wp K U (fun ca U =>
 (aD aQ ca bS U).wp K U (fun _ U =>
 ad K 116 [a0, (.str ja)] U (ai (fun ck U =>
 ad K 117 [a0] U (ai (fun v20 U =>
 ad K 116 [a0, (.str gE)] U (ai (fun bY U =>
 (av (some (true, 6)) v3 U).wp K U (fun cR U =>
 (aA (some (23, 1)) (some [.ak]) 1 false [(0, v20)]).wp K U (fun dz U =>
 ad K 60 [cR, dz] U (ai (fun df U =>
 al R df U) (aa R))) (aa R)) (aa R)) (aa R))) (aa R))) (aa R))) (aa R)) (aa R)) (aa R)) (aa R)) (aa R))) (
 gb 2 (fun v0 fI U =>
 ad K 115 [v0] U (ai (fun dY U =>
 (ag (some 1) fI).wp K U (fun eK U =>
 (aD aQ eK dY U).wp K U (fun _ U =>
 ad K 116 [v0, (.str fR)] U (ai (fun dH U =>
 gb 3 (fun fD uK v5 U =>
 ad K 116 [fD, (.str ja)] U (ai (fun v51 U =>
 ad K 119 [fD] U (ai (fun v53 U =>
 ad K 116 [fD, (.str lJ)] U (ai (fun gD U =>
 ad K 120 [fD] U (ai (fun jx U =>
 ad K 116 [fD, (.str gE)] U (ai (fun v59 U =>
 (av (some (true, 6)) uK U).wp K U (fun jY U =>
 (aA (some (23, 1)) (some [.ak]) 3 false [(0, v5), (1, v53), (2, jx)]).wp K U (fun kY U =>
 ad K 60 [jY, kY] U (ai (fun nA U =>
 al R nA U) (aa R))) (aa R)) (aa R)) (aa R))) (aa R))) (aa R))) (aa R))) (aa R))) fun tL =>
 ad K 114 [v0, (.str eF)] U (ai (fun eL U =>
 (fZ .not eL).wp K U (fun gn U =>
 ao gn (
 ad K 118 [v0] U (ai (fun gT U =>
 cD 3 [v0, fI, gT] U fun lp jD ZE ek U =>
 ad K 114 [jD, (.str nB)] U (ai (fun eJ U =>
 ao eJ (
 ad K 118 [jD] U (ai (fun v46 U =>
 (dc (some (43, 6)) false ek v46 U).wp K U (fun jH U =>
 lp jD ZE jH U) (aa R)) (aa R))) (
 ad K 116 [jD, (.str eF)] U (ai (fun v49 U =>
 tL jD ZE ek U) (aa R)))) (aa R))) (aa R))) (
 tL v0 fI .ak U)) (aa R)) (aa R))) (aa R))) (aa R)) (aa R)) (aa R))) fun j =>
 ad K 114 [a0, (.str jS)] U (ai (fun v28 U =>
 ao v28 (
 (ag (some 0) v3).wp K U (fun cO U =>
 (aD aQ cO (.int .u8 3) U).wp K U (fun _ U =>
 j a0 v3 U) (aa R)) (aa R)) (
 ad K 116 [a0, (.str ff)] U (ai (fun v31 U =>
 j a0 v3 U) (aa R)))) (aa R)))) (aa R))) (aa R)) (aa R)) (aa R)) (aa R))
def T4 : Prop :=
 (aw.cJ [.int .i64 0, .int .i64 0]).wp K U (fun v4 U =>
 (fun ay : St =>
 ar K (aI a0) (fun v6 =>
 ar K (ag (some 1) v6) (fun v7 =>
 ar K (av aQ v7 ay) (fun v8 =>
 ar K (aI a0) (fun v10 =>
 ar K (ag (some 0) v10) (fun v11 =>
 ar K (av aQ v11 ay) (fun v12 =>
 ar K (bD (some false) v12) (fun bN =>
 ar K (aq .lss aG false v8 bN) (fun bS =>
 ao bS (
 (fun gS : St =>
 ar K (aI a0) (fun ca =>
 ar K (ag (some 0) ca) (fun cm =>
 ar K (av aQ cm gS) (fun ck =>
 ar K (aI a0) (fun v20 =>
 ar K (ag (some 1) v20) (fun v21 =>
 ar K (av aQ v21 gS) (fun bY =>
 ar K (aH (some (51, 3)) none ck bY) (fun cR =>
 ar K (ag (some 2) cR) (fun v24 =>
 ar K (av aQ v24 gS) (fun dz =>
 ar K (bE (some [(0, 1), (1, 1)]) (some [.int .i64 0, .int .i64 0]) none [(0, dz), (1, (.int .i64 4))]) (fun df =>
 (aD (some (true, 2)) v4 df U).wp K U (fun _ U =>
 bL (some (true, 2)) v4 U fun r0 =>
 al R r0 U) (aa R)))))))))))) U) (
 (bD (some true) a1).wp K U (fun v28 U =>
 (bE (some [(0, 1), (1, 1)]) (some [.int .i64 0, .int .i64 0]) none [(0, v28), (1, (.int .i64 4))]).wp K U (fun cO U =>
 (aD (some (true, 2)) v4 cO U).wp K U (fun _ U =>
 bL (some (true, 2)) v4 U fun lr =>
 al R lr U) (aa R)) (aa R)) (aa R))))))))))) U) (aa R)
def T9 : Prop :=
 (jb a0).wp K U (fun v2 U =>
 (ag (some 5) v2).wp K U (fun v7 U =>
 (aD aQ v7 (.int .i64 1) U).wp K U (fun _ U =>
 (av (some (true, 6)) v2 U).wp K U (fun v8 U =>
 (aA (some (43, 6)) (some [.int .u8 0, .str [], .int .i64 0, .int .i64 0, .int .i64 0, .int .i64 0]) 1 true [(0, v8)]).wp K U (fun v9 U =>
 cD 3 [a1, v9, (.int .i64 0)] U fun lp v1 v5 v6 U =>
 (bD (some false) v1).wp K U (fun v12 U =>
 (aq .lss aG false v6 v12).wp K U (fun bN U =>
 ao bN (
 (aH (some (23, 1)) none v1 v6).wp K U (fun cn U =>
 (av aQ cn U).wp K U (fun v20 U =>
 (dc (some (43, 6)) true v5 v20 U).wp K U (fun v21 U =>
 (aq .add aG true v6 (.int .i64 1)).wp K U (fun bw U =>
 lp v1 v21 bw U) (aa R)) (aa R)) (aa R)) (aa R)) (
 (bD (some false) v5).wp K U (fun v24 U =>
 (aH (some (43, 6)) none v5 (.int .i64 0)).wp K U (fun dz U =>
 (ag (some 5) dz).wp K U (fun df U =>
 (aD aQ df v24 U).wp K U (fun _ U =>
 al R v5 U) (aa R)) (aa R)) (aa R)) (aa R))) (aa R)) (aa R)) (aa R)) (aa R)) (aa R)) (aa R)) (aa R)
def Ua : Prop :=
 (jb a0).wp K U (fun v1 U =>
 (av (some (true, 3)) v1 U).wp K U (fun v3 U =>
 (aA (some (9, 1)) (some [.str []]) 3 false [(0, (.str fA)), (1, (.str jS)), (2, (.str ff))]).wp K U (fun v4 U =>
 ad K 121 [v3, v4] U (ai (fun v5 U =>
 al R v5 U) (aa R))) (aa R)) (aa R)) (aa R)
def Ub : Prop :=
 (aq .add aG true a1 (.int .i64 1)).wp K U (fun v8 U =>
 cD 4 [a0, a1, .ak, v8] U fun lp v0 v1 v5 v6 U =>
 (aH (some (43, 6)) none v0 v1).wp K U (fun bN U =>
 (ag (some 5) bN).wp K U (fun bS U =>
 (av aQ bS U).wp K U (fun bw U =>
 (aq .add aG false v1 bw).wp K U (fun ca U =>
 (aq .lss aG false v6 ca).wp K U (fun cm U =>
 ao cm (
 (aA (some (3, 1)) (some [.int .i64 0]) 1 false [(0, v6)]).wp K U (fun di U =>
 (dc (some (3, 1)) false v5 di U).wp K U (fun v28 U =>
 (aH (some (43, 6)) none v0 v6).wp K U (fun v21 U =>
 (ag (some 5) v21).wp K U (fun bY U =>
 (av aQ bY U).wp K U (fun cR U =>
 (aq .add aG false v6 cR).wp K U (fun v24 U =>
 lp v0 v1 v28 v24 U) (aa R)) (aa R)) (aa R)) (aa R)) (aa R)) (aa R)) (
 al R v5 U)) (aa R)) (aa R)) (aa R)) (aa R)) (aa R)) (aa R)
def Uc : Prop :=
 (jb a0).wp K U (fun v1 U =>
 (ag (some 0) v1).wp K U (fun v7 U =>
 (av aQ v7 U).wp K U (fun v8 U =>
 (bD (some false) v8).wp K U (fun v9 U =>
 cD 6 [v1, (.bool false), .ak, v8, v9, (.int .i64 0)] U fun lp gi v2 v3 de ic v10 U =>
 (aq .lss aG false v10 ic).wp K U (fun v11 U =>
 ao v11 (
 (aH (some (43, 6)) none de v10).wp K U (fun bN U =>
 (av (some (true, 6)) bN U).wp K U (fun bS U =>
 (aw.cJ [.int .i64 0]).wp K U (fun v4 U =>
 (aw.cJ [.int .u8 0, .str [], .int .i64 0, .int .i64 0, .int .i64 0, .int .i64 0]).wp K U (fun v5 U =>
 (aD aQ v4 v10 U).wp K U (fun _ U =>
 (aD (some (true, 6)) v5 bS U).wp K U (fun _ U =>
 ad K 132 [v3, (.func (.func 133) [] [v4])] U (ai (fun cm U =>
 (bD (some false) cm).wp K U (fun cn U =>
 (aq .gtr aG true cn (.int .i64 60)).wp K U (fun v20 U =>
 ao v20 (
 al R (.bool true) U) (
 (av aQ v4 U).wp K U (fun bY U =>
 (ag (some 5) v5).wp K U (fun cR U =>
 (av aQ cR U).wp K U (fun v24 U =>
 (aq .add aG false bY v24).wp K U (fun dz U =>
 (aA (some (3, 1)) (some [.int .i64 0]) 1 true [(0, dz)]).wp K U (fun df U =>
 (dc (some (3, 1)) true cm df U).wp K U (fun di U =>
 (aq .add aG true v10 (.int .i64 1)).wp K U (fun v28 U =>
 lp gi v2 di de ic v28 U) (aa R)) (aa R)) (aa R)) (aa R)) (aa R)) (aa R)) (aa R))) (aa R)) (aa R)) (aa R))) (aa R)) (aa R)) (aa R)) (aa R)) (aa R)) (aa R)) (
 (aw.cJ [.int .i64 0]).wp K U (fun v6 U =>
 (aD aQ v6 (.int .i64 0) U).wp K U (fun _ U =>
 (av (some (true, 1)) gi U).wp K U (fun cO U =>
 (bE (some [(0, 1)]) (some [.ak]) none [(0, cO)]).wp K U (fun v30 U =>
 ad K 81 [v30, (.int .i64 0)] U (ai (fun v31 U =>
 yu K 1 v31 U (fun ep q U =>
 q.MC (fun U =>
 (av aQ v6 U).wp K U (fun dY U =>
 (aq .add aG true dY (.int .i64 1)).wp K U (fun eK U =>
 (aD aQ v6 eK U).wp K U (fun _ U =>
 q.n U) (fun _ _ => False)) (fun _ _ => False)) (fun _ _ => False)) U) (fun U =>
 (av aQ v6 U).wp K U (fun ef U =>
 (aq .gtr aG true ef (.int .i64 24)).wp K U (fun dH U =>
 al R dH U) (aa R)) (aa R)) (fun i U =>
 SP (Nat.beq i 2) (
 (av aQ v6 U).wp K U (fun B6 U =>
 (aq .gtr aG true B6 (.int .i64 24)).wp K U (fun wK U =>
 al R wK U) (aa R)) (aa R)) (
 False)) (fun U =>
 al R v2 U) (fun x U => (aa R) x U)) (aa R))) (aa R)) (aa R)) (aa R)) (aa R))) (aa R)) (aa R)) (aa R)) (aa R)) (aa R)
def Ud : Prop :=
 (bD (some false) a0).wp K U (fun v7 U =>
 (aq .eql aG true v7 (.int .i64 0)).wp K U (fun v8 U =>
 ae K (au v8 false) (aw.val a0) (fun v10 =>
 ae K (au v8 false) (aH (some (43, 6)) none v10 (.int .i64 0)) (fun v11 =>
 ae K (au v8 false) (ag (some 5) v11) (fun v12 =>
 ae K (au v8 false) (av aQ v12 U) (fun bN =>
 ae K (au v8 false) (aw.val a0) (fun bS =>
 ae K (au v8 false) (bD (some false) bS) (fun bw =>
 ae K (au v8 false) (aq .neq aG false bN bw) (fun ca =>
 (aY v8 (.bool true) ca).wp K U (fun cm U =>
 ao cm (
 al R (.bool false) U) (
 cD 2 [a0, (.int .i64 0)] U fun lp v0 v3 U =>
 (bD (some false) v0).wp K U (fun v20 U =>
 (aq .lss aG false v3 v20).wp K U (fun v21 U =>
 ao v21 (
 (aH (some (43, 6)) none v0 v3).wp K U (fun df U =>
 (ag (some 5) df).wp K U (fun di U =>
 (av aQ di U).wp K U (fun v28 U =>
 (aq .lss aG true v28 (.int .i64 1)).wp K U (fun cO U =>
 ae K (au cO false) (aw.val v0) (fun v31 =>
 ae K (au cO false) (aw.val v3) (fun ep =>
 ae K (au cO false) (aH (some (43, 6)) none v31 ep) (fun dY =>
 ae K (au cO false) (ag (some 5) dY) (fun eK =>
 ae K (au cO false) (av aQ eK U) (fun ef =>
 ae K (au cO false) (aw.val v0) (fun dH =>
 ae K (au cO false) (bD (some false) dH) (fun v37 =>
 ae K (au cO false) (aw.val v3) (fun eL =>
 ae K (au cO false) (aq .sub aG false v37 eL) (fun gn =>
 ae K (au cO false) (aq .gtr aG false ef gn) (fun v40 =>
 (aY cO (.bool true) v40).wp K U (fun gT U =>
 ao gT (
 al R (.bool false) U) (
 (aq .add aG true v3 (.int .i64 1)).wp K U (fun cR U =>
 lp v0 cR U) (aa R))) (aa R)))))))))))) (aa R)) (aa R)) (aa R)) (aa R)) (
 cD 2 [v0, (.int .i64 0)] U fun pg fD v4 U =>
 (bD (some false) fD).wp K U (fun jv U =>
 (aq .lss aG false v4 jv).wp K U (fun ig U =>
 ao ig (
 (aq .add aG true v4 (.int .i64 1)).wp K U (fun v49 U =>
 cD 3 [fD, v4, v49] U fun Ga jD ee v5 U =>
 (aH (some (43, 6)) none jD ee).wp K U (fun iQ U =>
 (ag (some 5) iQ).wp K U (fun gD U =>
 (av aQ gD U).wp K U (fun lE U =>
 (aq .add aG false ee lE).wp K U (fun jx U =>
 (aq .lss aG false v5 jx).wp K U (fun kX U =>
 ao kX (
 (aH (some (43, 6)) none jD v5).wp K U (fun oZ U =>
 (ag (some 5) oZ).wp K U (fun jZ U =>
 (av aQ jZ U).wp K U (fun kY U =>
 (aq .add aG false v5 kY).wp K U (fun nA U =>
 Ga jD ee nA U) (aa R)) (aa R)) (aa R)) (aa R)) (
 (aH (some (43, 6)) none jD ee).wp K U (fun v70 U =>
 (ag (some 5) v70).wp K U (fun jq U =>
 (av aQ jq U).wp K U (fun v72 U =>
 (aq .add aG false ee v72).wp K U (fun ua U =>
 (aq .neq aG false v5 ua).wp K U (fun tn U =>
 ao tn (
 al R (.bool false) U) (
 (aq .add aG true ee (.int .i64 1)).wp K U (fun jH U =>
 pg jD jH U) (aa R))) (aa R)) (aa R)) (aa R)) (aa R)) (aa R))) (aa R)) (aa R)) (aa R)) (aa R)) (aa R)) (aa R)) (
 al R (.bool true) U)) (aa R)) (aa R))) (aa R)) (aa R))) (aa R))))))))) (aa R)) (aa R)
def Ue : Prop :=
 (jb a0).wp K U (fun v1 U =>
 (fun ay : St =>
 ar K (ag (some 0) v1) (fun v3 =>
 ar K (av aQ v3 ay) (fun v4 =>
 ar K (aw.enter 134 [v4]) (fun v5 =>
 ar K (ag (some 1) v1) (fun v6 =>
 ar K (av aQ v6 ay) (fun v7 =>
 ar K (aq .neq aG true v7 (.str w_)) (fun v8 =>
 ar K (aq .neq (BT.mk true false false none) false v5 v8) (fun v9 =>
 ae K (au v9 false) (ag (some 1) v1) (fun v11 =>
 ae K (au v9 false) (av aQ v11 ay) (fun v12 =>
 ae K (au v9 false) (aq .neq aG true v12 (.str w_)) (fun bN =>
 ae K (au v9 false) (aw.val bN) (fun bS =>
 ae K (au bS true) (ag (some 1) v1) (fun bw =>
 ae K (au bS true) (av aQ bw ay) (fun ca =>
 ae K (au bS true) (aw.enter 135 [ca]) (fun cm =>
 ae K (au bS true) (fZ .not cm) (fun ck =>
 ae K (au v9 false) (aY bS ck (.bool false)) (fun cn =>
 ar K (aY v9 (.bool true) cn) (fun v20 =>
 ao v20 (
 al R (.bool false) U) (
 (ag (some 0) v1).wp K U (fun v21 U =>
 (av aQ v21 U).wp K U (fun bY U =>
 ad K 136 [bY] U (ai (fun cR U =>
 ae K (au cR true) (ag (some 2) v1) (fun dz =>
 ae K (au cR true) (av aQ dz U) (fun df =>
 ae K (au cR true) (aw.enter 137 [df]) (fun di =>
 ae K (au cR true) (fZ .not di) (fun v28 =>
 (aY cR v28 (.bool false)).wp K U (fun cO U =>
 ae K (au cO false) (ag (some 0) v1) (fun v31 =>
 ae K (au cO false) (av aQ v31 U) (fun ep =>
 ae K (au cO false) (aw.enter 136 [ep]) (fun dY =>
 ae K (au cO false) (fZ .not dY) (fun eK =>
 ae K (au cO false) (aw.val eK) (fun ef =>
 ae K (au ef true) (ag (some 2) v1) (fun dH =>
 ae K (au ef true) (av aQ dH U) (fun v37 =>
 ae K (au ef true) (aq .neq aG true v37 (.int .i64 0)) (fun eL =>
 ae K (au cO false) (aY ef eL (.bool false)) (fun gn =>
 (aY cO (.bool true) gn).wp K U (fun v40 U =>
 ao v40 (
 al R (.bool false) U) (
 (ag (some 0) v1).wp K U (fun gT U =>
 (av aQ gT U).wp K U (fun kD U =>
 (aq .eql aG true kD (.int .u8 12)).wp K U (fun eJ U =>
 ae K (au eJ true) (ag (some 3) v1) (fun ig =>
 ae K (au eJ true) (av aQ ig U) (fun v46 =>
 ae K (au eJ true) (aw.enter 137 [v46]) (fun jH =>
 (aY eJ jH (.bool false)).wp K U (fun gp U =>
 ae K (au gp false) (ag (some 0) v1) (fun fx =>
 ae K (au gp false) (av aQ fx U) (fun v51 =>
 ae K (au gp false) (aq .neq aG true v51 (.int .u8 12)) (fun iD =>
 ae K (au gp false) (aw.val iD) (fun v53 =>
 ae K (au v53 true) (ag (some 3) v1) (fun iQ =>
 ae K (au v53 true) (av aQ iQ U) (fun gD =>
 ae K (au v53 true) (aq .eql aG true gD (.int .i64 0)) (fun lE =>
 ae K (au gp false) (aY v53 lE (.bool false)) (fun jx =>
 (aY gp (.bool true) jx).wp K U (fun kX U =>
 al R kX U) (aa R)))))))))) (aa R))))) (aa R)) (aa R)) (aa R))) (aa R))))))))))) (aa R)))))) (aa R))) (aa R)) (aa R)))))))))))))))))))) U) (aa R)
def Uf : Prop :=
 (bD (some false) a1).wp K U (fun v7 U =>
 (aq .eql aG true a0 (.int .u8 1)).wp K U (fun v10 U =>
 ao v10 (
 ad K 138 [a1] U (ai (fun v12 U =>
 al R v12 U) (aa R))) (
 gb 4 (fun v1 v5 v8 bN U =>
 ao bN (
 (aq .eql aG true v5 (.int .i64 1)).wp K U (fun cm U =>
 ae K (au cm true) (aw.val v1) (fun cn =>
 ae K (au cm true) (aH (some (5, 1)) none cn (.int .i64 0)) (fun v20 =>
 ae K (au cm true) (av aQ v20 U) (fun v21 =>
 ae K (au cm true) (aw.enter 139 [v21]) (fun bY =>
 (aY cm bY (.bool false)).wp K U (fun cR U =>
 al R cR U) (aa R)))))) (aa R)) (
 gb 4 (fun gi ek de v24 U =>
 ao v24 (
 (aq .geq aG true ek (.int .i64 2)).wp K U (fun v28 U =>
 ae K (au v28 true) (aw.val gi) (fun v30 =>
 ae K (au v28 true) (aw.val ek) (fun v31 =>
 ae K (au v28 true) (aq .sub aG true v31 (.int .i64 2)) (fun ep =>
 ae K (au v28 true) (fW false (some (5, 1)) v30 none (some ep)) (fun dY =>
 ae K (au v28 true) (aw.enter 140 [dY, (.int .u8 5)]) (fun eK =>
 (aY v28 eK (.bool false)).wp K U (fun ef U =>
 ae K (au ef true) (aw.val gi) (fun v37 =>
 ae K (au ef true) (aw.val ek) (fun eL =>
 ae K (au ef true) (aq .sub aG true eL (.int .i64 2)) (fun gn =>
 ae K (au ef true) (aH (some (5, 1)) none v37 gn) (fun v40 =>
 ae K (au ef true) (av aQ v40 U) (fun gT =>
 ae K (au ef true) (aw.enter 141 [gT]) (fun kD =>
 (aY ef kD (.bool false)).wp K U (fun eJ U =>
 ae K (au eJ true) (aw.val gi) (fun ig =>
 ae K (au eJ true) (aw.val ek) (fun v46 =>
 ae K (au eJ true) (aq .sub aG true v46 (.int .i64 1)) (fun jH =>
 ae K (au eJ true) (aH (some (5, 1)) none ig jH) (fun gp =>
 ae K (au eJ true) (av aQ gp U) (fun v49 =>
 ae K (au eJ true) (aw.enter 142 [v49]) (fun fx =>
 (aY eJ fx (.bool false)).wp K U (fun v51 U =>
 al R v51 U) (aa R)))))))) (aa R)))))))) (aa R))))))) (aa R)) (
 (aq .eql aG true de (.int .u8 8)).wp K U (fun v53 U =>
 ao v53 (
 (aq .geq aG true ek (.int .i64 2)).wp K U (fun gD U =>
 ae K (au gD true) (aw.val gi) (fun jx =>
 ae K (au gD true) (aw.enter 143 [jx]) (fun kX =>
 (aY gD kX (.bool false)).wp K U (fun v59 U =>
 al R v59 U) (aa R)))) (aa R)) (
 (aq .eql aG true de (.int .u8 9)).wp K U (fun tZ U =>
 ao tZ (
 (aq .geq aG true ek (.int .i64 2)).wp K U (fun jZ U =>
 ae K (au jZ true) (aw.val gi) (fun nA =>
 ae K (au jZ true) (aw.enter 144 [nA]) (fun qt =>
 (aY jZ qt (.bool false)).wp K U (fun pP U =>
 al R pP U) (aa R)))) (aa R)) (
 (aq .eql aG true de (.int .u8 10)).wp K U (fun rM U =>
 ao rM (
 (aq .eql aG true ek (.int .i64 3)).wp K U (fun jq U =>
 ae K (au jq true) (aw.val gi) (fun ua =>
 ae K (au jq true) (aw.enter 144 [ua]) (fun tn =>
 (aY jq tn (.bool false)).wp K U (fun v75 U =>
 al R v75 U) (aa R)))) (aa R)) (
 gb 4 (fun nr yN uL v76 U =>
 ao v76 (
 (aq .eql aG true yN (.int .i64 2)).wp K U (fun B8 U =>
 ae K (au B8 true) (aw.val nr) (fun B9 =>
 ae K (au B8 true) (aw.enter 144 [B9]) (fun v91 =>
 (aY B8 v91 (.bool false)).wp K U (fun G4 U =>
 al R G4 U) (aa R)))) (aa R)) (
 gb 4 (fun AM nZ qu v93 U =>
 ao v93 (
 (aq .eql aG true nZ (.int .i64 1)).wp K U (fun yK U =>
 ae K (au yK true) (aw.val AM) (fun yL =>
 ae K (au yK true) (aw.enter 144 [yL]) (fun Da =>
 (aY yK Da (.bool false)).wp K U (fun yM U =>
 al R yM U) (aa R)))) (aa R)) (
 (aq .eql aG true qu (.int .u8 34)).wp K U (fun GX U =>
 ao GX (
 (aq .geq aG true nZ (.int .i64 1)).wp K U (fun Db U =>
 ae K (au Db true) (aw.val AM) (fun Sw =>
 ae K (au Db true) (aw.enter 145 [Sw]) (fun Sx =>
 (aY Db Sx (.bool false)).wp K U (fun oK U =>
 al R oK U) (aa R)))) (aa R)) (
 (aq .eql aG true qu (.int .u8 35)).wp K U (fun Sy U =>
 ao Sy (
 (aq .geq aG true nZ (.int .i64 2)).wp K U (fun wH U =>
 ae K (au wH true) (aw.val AM) (fun Sz =>
 ae K (au wH true) (aw.val nZ) (fun SA =>
 ae K (au wH true) (aq .sub aG true SA (.int .i64 1)) (fun KO =>
 ae K (au wH true) (fW false (some (5, 1)) Sz none (some KO)) (fun SB =>
 ae K (au wH true) (aw.enter 140 [SB, (.int .u8 37)]) (fun SC =>
 (aY wH SC (.bool false)).wp K U (fun wI U =>
 ae K (au wI true) (aw.val AM) (fun SD =>
 ae K (au wI true) (aw.val nZ) (fun SE =>
 ae K (au wI true) (aq .sub aG true SE (.int .i64 1)) (fun v127 =>
 ae K (au wI true) (aH (some (5, 1)) none SD v127) (fun acI =>
 ae K (au wI true) (av aQ acI U) (fun SF =>
 ae K (au wI true) (aw.enter 142 [SF]) (fun v130 =>
 (aY wI v130 (.bool false)).wp K U (fun v131 U =>
 al R v131 U) (aa R)))))))) (aa R))))))) (aa R)) (
 (aq .eql aG true qu (.int .u8 36)).wp K U (fun Zy U =>
 ao Zy (
 (aq .eql aG true nZ (.int .i64 3)).wp K U (fun GY U =>
 ae K (au GY true) (aw.val AM) (fun SG =>
 ae K (au GY true) (aH (some (5, 1)) none SG (.int .i64 0)) (fun v138 =>
 ae K (au GY true) (av aQ v138 U) (fun v139 =>
 ae K (au GY true) (aw.enter 142 [v139]) (fun GZ =>
 (aY GY GZ (.bool false)).wp K U (fun v141 U =>
 ae K (au v141 true) (aw.val AM) (fun v143 =>
 ae K (au v141 true) (aH (some (5, 1)) none v143 (.int .i64 1)) (fun acL =>
 ae K (au v141 true) (av aQ acL U) (fun v145 =>
 ae K (au v141 true) (aq .eql aG true v145 (.int .u8 37)) (fun v146 =>
 (aY v141 v146 (.bool false)).wp K U (fun G0 U =>
 ae K (au G0 true) (aw.val AM) (fun acM =>
 ae K (au G0 true) (aH (some (5, 1)) none acM (.int .i64 2)) (fun acN =>
 ae K (au G0 true) (av aQ acN U) (fun acO =>
 ae K (au G0 true) (aw.enter 142 [acO]) (fun v152 =>
 (aY G0 v152 (.bool false)).wp K U (fun acP U =>
 al R acP U) (aa R)))))) (aa R)))))) (aa R)))))) (aa R)) (
 gb 2 (fun acS v154 U =>
 ao v154 (
 (aq .eql aG true acS (.int .i64 0)).wp K U (fun v167 U =>
 al R v167 U) (aa R)) (
 al R (.bool false) U)) fun x5 =>
 (aq .eql aG true qu (.int .u8 6)).wp K U (fun Zz U =>
 ao Zz (
 x5 nZ Zz U) (
 (aq .eql aG true qu (.int .u8 7)).wp K U (fun ZA U =>
 ao ZA (
 x5 nZ ZA U) (
 (aq .eql aG true qu (.int .u8 26)).wp K U (fun v157 U =>
 ao v157 (
 x5 nZ v157 U) (
 (aq .eql aG true qu (.int .u8 27)).wp K U (fun ZB U =>
 ao ZB (
 x5 nZ ZB U) (
 (aq .eql aG true qu (.int .u8 28)).wp K U (fun v159 U =>
 ao v159 (
 x5 nZ v159 U) (
 (aq .eql aG true qu (.int .u8 29)).wp K U (fun v160 U =>
 ao v160 (
 x5 nZ v160 U) (
 (aq .eql aG true qu (.int .u8 30)).wp K U (fun ZC U =>
 ao ZC (
 x5 nZ ZC U) (
 (aq .eql aG true qu (.int .u8 31)).wp K U (fun v162 U =>
 ao v162 (
 x5 nZ v162 U) (
 (aq .eql aG true qu (.int .u8 32)).wp K U (fun ZD U =>
 ao ZD (
 x5 nZ ZD U) (
 (aq .eql aG true qu (.int .u8 33)).wp K U (fun v164 U =>
 ao v164 (
 x5 nZ v164 U) (
 (aq .eql aG true qu (.int .u8 37)).wp K U (fun acQ U =>
 x5 nZ acQ U) (aa R))) (aa R))) (aa R))) (aa R))) (aa R))) (aa R))) (aa R))) (aa R))) (aa R))) (aa R))) (aa R))) (aa R))) (aa R))) (aa R))) fun Mq =>
 (aq .eql aG true uL (.int .u8 12)).wp K U (fun Ef U =>
 ao Ef (
 Mq nr yN uL Ef U) (
 (aq .eql aG true uL (.int .u8 14)).wp K U (fun zY U =>
 ao zY (
 Mq nr yN uL zY U) (
 (aq .eql aG true uL (.int .u8 16)).wp K U (fun Jf U =>
 ao Jf (
 Mq nr yN uL Jf U) (
 (aq .eql aG true uL (.int .u8 19)).wp K U (fun Eg U =>
 ao Eg (
 Mq nr yN uL Eg U) (
 (aq .eql aG true uL (.int .u8 25)).wp K U (fun ZF U =>
 Mq nr yN uL ZF U) (aa R))) (aa R))) (aa R))) (aa R))) (aa R))) fun zL =>
 (aq .eql aG true de (.int .u8 11)).wp K U (fun zX U =>
 ao zX (
 zL gi ek de zX U) (
 (aq .eql aG true de (.int .u8 13)).wp K U (fun o0 U =>
 ao o0 (
 zL gi ek de o0 U) (
 (aq .eql aG true de (.int .u8 15)).wp K U (fun yO U =>
 ao yO (
 zL gi ek de yO U) (
 (aq .eql aG true de (.int .u8 17)).wp K U (fun v80 U =>
 ao v80 (
 zL gi ek de v80 U) (
 (aq .eql aG true de (.int .u8 18)).wp K U (fun vB U =>
 ao vB (
 zL gi ek de vB U) (
 (aq .eql aG true de (.int .u8 20)).wp K U (fun Ee U =>
 ao Ee (
 zL gi ek de Ee U) (
 (aq .eql aG true de (.int .u8 21)).wp K U (fun vC U =>
 ao vC (
 zL gi ek de vC U) (
 (aq .eql aG true de (.int .u8 22)).wp K U (fun B7 U =>
 ao B7 (
 zL gi ek de B7 U) (
 (aq .eql aG true de (.int .u8 23)).wp K U (fun v85 U =>
 ao v85 (
 zL gi ek de v85 U) (
 (aq .eql aG true de (.int .u8 24)).wp K U (fun vD U =>
 zL gi ek de vD U) (aa R))) (aa R))) (aa R))) (aa R))) (aa R))) (aa R))) (aa R))) (aa R))) (aa R))) (aa R))) (aa R))) (aa R))) (aa R))) fun tL =>
 (aq .eql aG true v8 (.int .u8 3)).wp K U (fun dz U =>
 ao dz (
 tL v1 v5 v8 dz U) (
 (aq .eql aG true v8 (.int .u8 4)).wp K U (fun df U =>
 tL v1 v5 v8 df U) (aa R))) (aa R))) fun j =>
 (aq .eql aG true a0 (.int .u8 2)).wp K U (fun bS U =>
 ao bS (
 j a1 v7 a0 bS U) (
 (aq .eql aG true a0 (.int .u8 5)).wp K U (fun bw U =>
 j a1 v7 a0 bw U) (aa R))) (aa R))) (aa R)) (aa R)
def Ug : Prop :=
 (bD (some false) a0).wp K U (fun v8 U =>
 (sh (some (3, 1)) (some [.int .i64 0]) true v8 v8).wp K U (fun v9 U =>
 cD 3 [a0, v9, (.int .i64 0)] U fun lp v0 v3 v4 U =>
 (bD (some false) v0).wp K U (fun v12 U =>
 (aq .lss aG false v4 v12).wp K U (fun bN U =>
 ao bN (
 ad K 67 [v0, v4] U (ai (fun ck U =>
 cD 5 [v0, v3, v4, ck, (.int .i64 0)] U fun pg fD fI ee v5 v6 U =>
 (bD (some false) v5).wp K U (fun v21 U =>
 (aq .lss aG false v6 v21).wp K U (fun bY U =>
 ao bY (
 (fun ay : St =>
 ar K (aH (some (3, 1)) none v5 v6) (fun v28 =>
 ar K (av aQ v28 ay) (fun cO =>
 ar K (aH (some (3, 1)) none fI ee) (fun ep =>
 ar K (av aQ ep ay) (fun dY =>
 ar K (aq .add aG true dY (.int .i64 1)) (fun eK =>
 ar K (aH (some (3, 1)) none fI cO) (fun ef =>
 (aD aQ ef eK U).wp K U (fun _ U =>
 (aq .add aG true v6 (.int .i64 1)).wp K U (fun v24 U =>
 pg fD fI ee v5 v24 U) (aa R)) (aa R)))))))) U) (
 (aq .add aG true ee (.int .i64 1)).wp K U (fun bw U =>
 lp fD fI bw U) (aa R))) (aa R)) (aa R)) (aa R))) (
 al R v3 U)) (aa R)) (aa R)) (aa R)) (aa R)
def Uh : Prop :=
 (bD (some true) a0).wp K U (fun v6 U =>
 (aq .gtr aG true v6 (.int .i64 2500)).wp K U (fun v7 U =>
 ao v7 (
 al R (.aU [(.int .i64 0), (.int .i64 5)]) U) (
 (bD (some true) a0).wp K U (fun v9 U =>
 cD 3 [a0, v9, (.int .i64 0)] U fun lp v0 ic v10 U =>
 (aq .lss aG false v10 ic).wp K U (fun v11 U =>
 ao v11 (
 (dU true none none v0 v10).wp K U (fun bw U =>
 ad K 146 [bw] U (ai (fun ca U =>
 (fZ .not ca).wp K U (fun cm U =>
 ao cm (
 al R (.aU [v10, (.int .i64 2)]) U) (
 (aq .add aG true v10 (.int .i64 1)).wp K U (fun cn U =>
 lp v0 ic cn U) (aa R))) (aa R)) (aa R))) (aa R)) (
 al R (.aU [(.int .i64 0), (.int .i64 0)]) U)) (aa R)) (aa R))) (aa R)) (aa R)
def Ui (a0 a1 : AV) (R : cS -> St -> Prop) (U : St) : Prop :=
 (av aQ a1 U).wp K U (fun v4 U =>
 (av aQ a1 U).wp K U (fun v5 U =>
 (bD (some false) v5).wp K U (fun v6 U =>
 (aq .sub aG true v6 (.int .i64 1)).wp K U (fun v7 U =>
 (aH (some (51, 3)) none v4 v7).wp K U (fun v8 U =>
 (ag (some 1) v8).wp K U (fun v9 U =>
 (av aQ v9 U).wp K U (fun v10 U =>
 (bD (some true) v10).wp K U (fun v11 U =>
 al R v11 U) (aa R)) (aa R)) (aa R)) (aa R)) (aa R)) (aa R)) (aa R)) (aa R)
def Uj : Prop :=
 (jb a0).wp K U (fun v2 U =>
 (jb a1).wp K U (fun v3 U =>
 al R (.func (.func 147) [] [v2, v3]) U) (aa R)) (aa R)
def Uk : Prop :=
 (aw.cJ [.int .u8 0, .str [], .int .i64 0]).wp K U (fun v2 U =>
 ad K 149 [a0] U (ai (fun v7 U =>
 (fW true none a0 none (some v7)).wp K U (fun v8 U =>
 (aq .eql aG true v8 (.str w_)).wp K U (fun v11 U =>
 ao v11 (
 ad K 150 [a0] U (ai (fun bN U =>
 (aX bN 0).wp K U (fun bS U =>
 (aX bN 1).wp K U (fun bw U =>
 (aD (some (true, 3)) v2 bS U).wp K U (fun _ U =>
 bL (some (true, 3)) v2 U fun r0 =>
 al R (.aU [r0, bw]) U) (aa R)) (aa R)) (aa R)) (aa R))) (
 (dU true none none v8 (.int .i64 0)).wp K U (fun ck U =>
 (aA (some (178, 1)) (some [.int .i64 0]) 1 false [(0, (.int .i64 2))]).wp K U (fun cn U =>
 ad K 151 [ck, cn] U (ai (fun v20 U =>
 ao v20 (
 (bE (some [(0, 1), (1, 1), (2, 1)]) (some [.int .u8 0, .str [], .int .i64 0]) none [(0, (.int .u8 2)), (1, v8)]).wp K U (fun bY U =>
 ad K 152 [v8] U (ai (fun v24 U =>
 (aD (some (true, 3)) v2 bY U).wp K U (fun _ U =>
 bL (some (true, 3)) v2 U fun lr =>
 al R (.aU [lr, v24]) U) (aa R)) (aa R))) (aa R)) (
 (dU true none none v8 (.int .i64 0)).wp K U (fun di U =>
 (aA (some (178, 1)) (some [.int .i64 0]) 1 false [(0, (.int .i64 3))]).wp K U (fun v28 U =>
 ad K 151 [di, v28] U (ai (fun cO U =>
 (fZ .not cO).wp K U (fun v30 U =>
 ao v30 (
 (bE (some [(0, 1), (1, 1), (2, 1)]) (some [.int .u8 0, .str [], .int .i64 0]) none []).wp K U (fun v31 U =>
 (aD (some (true, 3)) v2 v31 U).wp K U (fun _ U =>
 bL (some (true, 3)) v2 U fun po =>
 al R (.aU [po, (.int .i64 4)]) U) (aa R)) (aa R)) (
 ad K 153 [] U (ai (fun dY U =>
 (iB (some (.s, 4)) (some (.bool false)) dY v8 false U).wp K U (fun ef U =>
 ao ef (
 (bE (some [(0, 1), (1, 1), (2, 1)]) (some [.int .u8 0, .str [], .int .i64 0]) none [(0, (.int .u8 3)), (1, v8)]).wp K U (fun v37 U =>
 (aD (some (true, 3)) v2 v37 U).wp K U (fun _ U =>
 bL (some (true, 3)) v2 U fun Az =>
 al R (.aU [Az, (.int .i64 0)]) U) (aa R)) (aa R)) (
 (bD (some true) v8).wp K U (fun v40 U =>
 (aq .gtr aG true v40 (.int .i64 12)).wp K U (fun gT U =>
 ao gT (
 (bE (some [(0, 1), (1, 1), (2, 1)]) (some [.int .u8 0, .str [], .int .i64 0]) none []).wp K U (fun kD U =>
 (aD (some (true, 3)) v2 kD U).wp K U (fun _ U =>
 bL (some (true, 3)) v2 U fun RG =>
 al R (.aU [RG, (.int .i64 4)]) U) (aa R)) (aa R)) (
 (bE (some [(0, 1), (1, 1), (2, 1)]) (some [.int .u8 0, .str [], .int .i64 0]) none [(0, (.int .u8 1)), (1, v8)]).wp K U (fun jv U =>
 (aD (some (true, 3)) v2 jv U).wp K U (fun _ U =>
 bL (some (true, 3)) v2 U fun Gx =>
 al R (.aU [Gx, (.int .i64 0)]) U) (aa R)) (aa R))) (aa R)) (aa R))) (aa R)) (aa R)))) (aa R)) (aa R))) (aa R)) (aa R))) (aa R))) (aa R)) (aa R))) (aa R)) (aa R)) (aa R))) (aa R)
def Ul : Prop :=
 (jb a0).wp K U (fun v2 U =>
 (jb a1).wp K U (fun v3 U =>
 (fun ay : St =>
 ar K (av aQ v3 ay) (fun v6 =>
 ar K (ag (some 0) v2) (fun v7 =>
 ar K (ag (some 0) v7) (fun v8 =>
 ar K (av aQ v8 ay) (fun v9 =>
 ar K (av aQ v3 ay) (fun v10 =>
 ar K (aH (some (43, 6)) none v9 v10) (fun v11 =>
 ar K (ag (some 5) v11) (fun v12 =>
 ar K (av aQ v12 ay) (fun bN =>
 ar K (aq .add aG false v6 bN) (fun bS =>
 (aw.cJ [.int .i64 0]).wp K U (fun v5 U => cv ((cr v12 ++ []) ++ ((cr v3 ++ []) ++ ((cr v8 ++ []) ++ ((cr v3 ++ []) ++ [])))) ay U /\
 (aD aQ v5 bS U).wp K U (fun _ U =>
 al R (.func (.func 155) [] [v3, v5, v2]) U) (aa R)) (aa R))))))))))) U) (aa R)) (aa R)
def abg : Prop :=
 ad K 164 [a0] U (ai (fun v7 U =>
 (bE (some [(0, 1), (1, 1), (2, 1), (3, 1), (4, 1), (5, 1)]) (some [.int .u8 0, .str [], .int .i64 0, .int .i64 0, .int .i64 0, .int .i64 0]) none [(0, a1), (4, v7)]).wp K U (fun v8 U =>
 (bE (some [(0, 6), (6, 1)]) (some [.int .u8 0, .str [], .int .i64 0, .int .i64 0, .int .i64 0, .int .i64 0, .ak]) none [(0, v8)]).wp K U (fun v9 U =>
 (jb v9).wp K U (fun v10 U =>
 al R v10 U) (aa R)) (aa R)) (aa R)) (aa R))
def M6 : Prop :=
 (aA (some (9, 1)) (some [.str []]) 1 false [(0, a1)]).wp K U (fun v7 U =>
 ad K 105 [a0, v7] U (ai (fun v8 U =>
 (fZ .not v8).wp K U (fun v9 U =>
 ao v9 (
 al R (.bool false) U) (
 (aI a0).wp K U (fun v11 U =>
 (ag (some 1) v11).wp K U (fun v12 U =>
 (av aQ v12 U).wp K U (fun bN U =>
 (aq .add aG true bN (.int .i64 1)).wp K U (fun bS U =>
 (aI a0).wp K U (fun bw U =>
 (ag (some 1) bw).wp K U (fun ca U =>
 (aD aQ ca bS U).wp K U (fun _ U =>
 al R (.bool true) U) (aa R)) (aa R)) (aa R)) (aa R)) (aa R)) (aa R)) (aa R))) (aa R)) (aa R))) (aa R)
def Za : Prop :=
 ad K 165 [a0, (.int .u8 1)] U (ai (fun v4 U =>
 al R v4 U) (aa R))
def Zb : Prop :=
 ad K 100 [a0, a1] U (ai (fun v6 U =>
 (fZ .not v6).wp K U (fun v7 U =>
 ao v7 (
 ad K 166 [a0] U (ai (fun v9 U =>
 al R (.aU []) U) (aa R))) (
 al R (.aU []) U)) (aa R)) (aa R))
def Na : Prop :=
 (aI a0).wp K U (fun v7 U =>
 (ag (some 6) v7).wp K U (fun v8 U =>
 (av aQ v8 U).wp K U (fun v9 U =>
 (dc (some (87, 1)) false v9 a1 U).wp K U (fun v11 U =>
 (aI a0).wp K U (fun v12 U =>
 (ag (some 6) v12).wp K U (fun bN U =>
 (aD aQ bN v11 U).wp K U (fun _ U =>
 al R a0 U) (aa R)) (aa R)) (aa R)) (aa R)) (aa R)) (aa R)) (aa R)
def Nc : Prop :=
 (aA (some (9, 1)) (some [.str []]) 1 false [(0, (.str fR))]).wp K U (fun v5 U =>
 ad K 105 [a0, v5] U (ai (fun v6 U =>
 (fZ .not v6).wp K U (fun v7 U =>
 ao v7 (
 ad K 108 [a0] U (ai (fun v9 U =>
 al R v9 U) (aa R))) (
 ad K 99 [a0, (.int .u8 8)] U (ai (fun v11 U =>
 ad K 102 [a0, (.str fR)] U (ai (fun bN U =>
 ad K 106 [a0, v11, (.func (.func 108) [a0] [])] U (ai (fun ck U =>
 ad K 102 [a0, (.str eF)] U (ai (fun v20 U =>
 ad K 102 [a0, (.str gy)] U (ai (fun bY U =>
 ad K 108 [a0] U (ai (fun dz U =>
 (aA (some (87, 1)) (some [.bj]) 1 false [(0, dz)]).wp K U (fun df U =>
 ad K 103 [v11, df] U (ai (fun di U =>
 al R di U) (aa R))) (aa R)) (aa R))) (aa R))) (aa R))) (aa R))) (aa R))) (aa R)))) (aa R)) (aa R))) (aa R)
def Zc : Prop :=
 ad K 167 [a0, (.int .i64 0)] U (ai (fun v6 U =>
 ad K 121 [v6, a1] U (ai (fun v8 U =>
 al R v8 U) (aa R))) (aa R))
def GG : Prop :=
 (lz K.P a2 []).wp K U (fun v8 U =>
 (aA (some (87, 1)) (some [.bj]) 1 false [(0, v8)]).wp K U (fun v9 U =>
 ad K 103 [a1, v9] U (ai (fun v10 U =>
 cD 3 [a0, a1, a2] U fun lp v0 v1 v2 U =>
 ad K 100 [v0, (.str nB)] U (ai (fun v12 U =>
 ao v12 (
 (lz K.P v2 []).wp K U (fun bw U =>
 (aA (some (87, 1)) (some [.bj]) 1 false [(0, bw)]).wp K U (fun ca U =>
 ad K 103 [v1, ca] U (ai (fun cm U =>
 lp v0 v1 v2 U) (aa R))) (aa R)) (aa R)) (
 al R (.aU []) U)) (aa R))) (aa R))) (aa R)) (aa R)
def Nh : Prop :=
 ad K 99 [a0, (.int .u8 5)] U (ai (fun v5 U =>
 ad K 101 [a0] U (ai (fun v8 U =>
 (aI v5).wp K U (fun v9 U =>
 (ag (some 0) v9).wp K U (fun v10 U =>
 (ag (some 1) v10).wp K U (fun v11 U =>
 (aD aQ v11 v8 U).wp K U (fun _ U =>
 ad K 102 [a0, (.str ja)] U (ai (fun bN U =>
 ad K 104 [a0] U (ai (fun ca U =>
 (aA (some (87, 1)) (some [.bj]) 1 false [(0, ca)]).wp K U (fun cm U =>
 ad K 103 [v5, cm] U (ai (fun ck U =>
 al R ck U) (aa R))) (aa R)) (aa R))) (aa R))) (aa R)) (aa R)) (aa R)) (aa R)) (aa R))) (aa R))
def Nj : Prop :=
 ad K 99 [a0, (.int .u8 6)] U (ai (fun v5 U =>
 gb 1 (fun v3 U =>
 al R v3 U) fun j =>
 ad K 100 [a0, (.str Ce)] U (ai (fun ca U =>
 ao ca (
 (aI v5).wp K U (fun ck U =>
 (ag (some 0) ck).wp K U (fun cn U =>
 (ag (some 2) cn).wp K U (fun v20 U =>
 (aD aQ v20 (.int .i64 1) U).wp K U (fun _ U =>
 j v5 U) (aa R)) (aa R)) (aa R)) (aa R)) (
 ad K 100 [a0, (.str yP)] U (ai (fun cR U =>
 ao cR (
 (aI v5).wp K U (fun dz U =>
 (ag (some 0) dz).wp K U (fun df U =>
 (ag (some 2) df).wp K U (fun di U =>
 (aD aQ di (.int .i64 2) U).wp K U (fun _ U =>
 j v5 U) (aa R)) (aa R)) (aa R)) (aa R)) (
 ad K 100 [a0, (.str rN)] U (ai (fun v30 U =>
 ao v30 (
 ad K 168 [a0] U (ai (fun eK U =>
 (aI v5).wp K U (fun ef U =>
 (ag (some 0) ef).wp K U (fun dH U =>
 (ag (some 0) dH).wp K U (fun v37 U =>
 (aD aQ v37 (.int .u8 7) U).wp K U (fun _ U =>
 (aI v5).wp K U (fun eL U =>
 (ag (some 0) eL).wp K U (fun gn U =>
 (ag (some 2) gn).wp K U (fun v40 U =>
 (aD aQ v40 eK U).wp K U (fun _ U =>
 j v5 U) (aa R)) (aa R)) (aa R)) (aa R)) (aa R)) (aa R)) (aa R)) (aa R)) (aa R))) (
 ad K 102 [a0, (.str wN)] U (ai (fun v7 U =>
 ad K 168 [a0] U (ai (fun v10 U =>
 (aI v5).wp K U (fun v11 U =>
 (ag (some 0) v11).wp K U (fun v12 U =>
 (ag (some 2) v12).wp K U (fun bN U =>
 (aD aQ bN v10 U).wp K U (fun _ U =>
 j v5 U) (aa R)) (aa R)) (aa R)) (aa R)) (aa R))) (aa R)))) (aa R)))) (aa R)))) (aa R))) (aa R))
def Nl : Prop :=
 ad K 169 [a0] U (ai (fun v7 U =>
 ad K 99 [a0, (.int .u8 9)] U (ai (fun v9 U =>
 (aA (some (87, 1)) (some [.bj]) 1 false [(0, v7)]).wp K U (fun v12 U =>
 ad K 103 [v9, v12] U (ai (fun bN U =>
 gb 2 (fun v3 v4 U =>
 (aI v4).wp K U (fun eK U =>
 (ag (some 6) eK).wp K U (fun ef U =>
 (av aQ ef U).wp K U (fun dH U =>
 (bD (some false) dH).wp K U (fun v37 U =>
 (aq .eql aG true v37 (.int .i64 1)).wp K U (fun eL U =>
 ao eL (
 al R v3 U) (
 al R v4 U)) (aa R)) (aa R)) (aa R)) (aa R)) (aa R)) fun j =>
 cD 3 [a0, v7, v9] U fun lp v0 fI ee U =>
 (aA (some (9, 1)) (some [.str []]) 1 false [(0, (.str gE))]).wp K U (fun bw U =>
 ad K 105 [v0, bw] U (ai (fun ca U =>
 ao ca (
 ad K 167 [v0, (.int .i64 1)] U (ai (fun ck U =>
 (aw.cJ [.int .u8 0, .str [], .int .i64 0]).wp K U (fun v5 U =>
 (aD (some (true, 3)) v5 ck U).wp K U (fun _ U =>
 (ag (some 0) v5).wp K U (fun cn U =>
 (av aQ cn U).wp K U (fun v20 U =>
 (aq .eql aG true v20 (.int .u8 0)).wp K U (fun v21 U =>
 ae K (au v21 false) (av (some (true, 3)) v5 U) (fun cR =>
 ae K (au v21 false) (aw.enter 61 [cR]) (fun v24 =>
 (aY v21 (.bool true) v24).wp K U (fun dz U =>
 ao dz (
 j fI ee U) (
 ad K 102 [v0, (.str gE)] U (ai (fun di U =>
 ad K 169 [v0] U (ai (fun v30 U =>
 (aA (some (87, 1)) (some [.bj]) 1 false [(0, v30)]).wp K U (fun v31 U =>
 ad K 103 [ee, v31] U (ai (fun ep U =>
 lp v0 fI ee U) (aa R))) (aa R)) (aa R))) (aa R)))) (aa R)))) (aa R)) (aa R)) (aa R)) (aa R)) (aa R)) (aa R))) (
 j fI ee U)) (aa R))) (aa R)) (aa R))) (aa R)) (aa R))) (aa R))
def No : Prop :=
 (aI a0).wp K U (fun v7 U =>
 (ag (some 0) v7).wp K U (fun v8 U =>
 (av (some (true, 6)) v8 U).wp K U (fun v9 U =>
 (aA (some (43, 6)) (some [.int .u8 0, .str [], .int .i64 0, .int .i64 0, .int .i64 0, .int .i64 0]) 1 true [(0, v9)]).wp K U (fun v10 U =>
 (aI a0).wp K U (fun v12 U =>
 (ag (some 6) v12).wp K U (fun bN U =>
 (av aQ bN U).wp K U (fun bS U =>
 (bD (some false) bS).wp K U (fun bw U =>
 cD 4 [v10, bS, bw, (.int .i64 0)] U fun lp v3 wJ B5 ca U =>
 (aq .lss aG false ca B5).wp K U (fun cm U =>
 ao cm (
 (aH (some (87, 1)) none wJ ca).wp K U (fun ck U =>
 (av aQ ck U).wp K U (fun cn U =>
 ad K 110 [cn] U (ai (fun bY U =>
 (dc (some (43, 6)) true v3 bY U).wp K U (fun cR U =>
 (aq .add aG true ca (.int .i64 1)).wp K U (fun v24 U =>
 lp cR wJ B5 v24 U) (aa R)) (aa R)) (aa R))) (aa R)) (aa R)) (
 (bD (some false) v3).wp K U (fun di U =>
 (aH (some (43, 6)) none v3 (.int .i64 0)).wp K U (fun v28 U =>
 (ag (some 5) v28).wp K U (fun cO U =>
 (aD aQ cO di U).wp K U (fun _ U =>
 al R v3 U) (aa R)) (aa R)) (aa R)) (aa R))) (aa R)) (aa R)) (aa R)) (aa R)) (aa R)) (aa R)) (aa R)) (aa R)) (aa R)
def Nq : Prop :=
 (bD (some true) a0).wp K U (fun v6 U =>
 (aq .gtr aG true v6 (.int .i64 2500)).wp K U (fun v7 U =>
 ao v7 (
 al R (.aU [(.int .i64 0), (.int .i64 5)]) U) (
 cD 2 [a0, (.int .i64 0)] U fun lp v0 v4 U =>
 (bD (some true) v0).wp K U (fun v10 U =>
 (aq .lss aG false v4 v10).wp K U (fun v11 U =>
 ao v11 (
 (dU true none none v0 v4).wp K U (fun ca U =>
 ad K 170 [ca] U (ai (fun cm U =>
 (fZ .not cm).wp K U (fun ck U =>
 ao ck (
 al R (.aU [v4, (.int .i64 2)]) U) (
 (aq .add aG true v4 (.int .i64 1)).wp K U (fun bN U =>
 lp v0 bN U) (aa R))) (aa R)) (aa R))) (aa R)) (
 al R (.aU [(.int .i64 0), (.int .i64 0)]) U)) (aa R)) (aa R))) (aa R)) (aa R)
def Ns : Prop :=
 cD 4 [a0, .ak, .ak, (.int .i64 0)] U fun lp v0 v6 v7 v8 U =>
 (bD (some true) v0).wp K U (fun bS U =>
 (aq .lss aG false v8 bS).wp K U (fun bw U =>
 ao bw (
 (dU true none none v0 v8).wp K U (fun ck U =>
 (aq .eql aG true ck (.int .u8 32)).wp K U (fun cn U =>
 ae K (au cn false) (aw.val v0) (fun v21 =>
 ae K (au cn false) (aw.val v8) (fun bY =>
 ae K (au cn false) (dU true none none v21 bY) (fun cR =>
 ae K (au cn false) (aq .eql aG true cR (.int .u8 10)) (fun v24 =>
 (aY cn (.bool true) v24).wp K U (fun dz U =>
 ao dz (
 (aq .add aG true v8 (.int .i64 1)).wp K U (fun di U =>
 lp v0 v6 v7 di U) (aa R)) (
 (dU true none none v0 v8).wp K U (fun v30 U =>
 (aq .eql aG true v30 (.int .u8 126)).wp K U (fun v31 U =>
 ao v31 (
 ad K 171 [v0, v8] U (ai (fun eK U =>
 (fW true none eK (some (.int .i64 1)) none).wp K U (fun v37 U =>
 (bE (some [(0, 1), (1, 1), (2, 1)]) (some [.int .u8 0, .str [], .int .i64 0]) none [(0, (.int .u8 5)), (1, v37), (2, v8)]).wp K U (fun gn U =>
 (aA (some (51, 3)) (some [.int .u8 0, .str [], .int .i64 0]) 1 false [(0, gn)]).wp K U (fun v40 U =>
 (dc (some (51, 3)) false v7 v40 U).wp K U (fun gT U =>
 (bD (some true) eK).wp K U (fun jv U =>
 (aq .add aG false v8 jv).wp K U (fun ig U =>
 lp v0 v6 gT ig U) (aa R)) (aa R)) (aa R)) (aa R)) (aa R)) (aa R)) (aa R))) (
 ad K 172 [v0, v8] U (ai (fun v49 U =>
 (aX v49 0).wp K U (fun fx U =>
 (aX v49 1).wp K U (fun v51 U =>
 (aw.cJ [.int .u8 0, .str [], .int .i64 0]).wp K U (fun v10 U =>
 (aD (some (true, 3)) v10 fx U).wp K U (fun _ U =>
 gb 6 (fun fD wL lx de kG v11 U =>
 (aq .neq aG true v11 (.int .i64 0)).wp K U (fun jY U =>
 ao jY (
 al R (.aU [.ak, .ak, de, v11]) U) (
 (av (some (true, 3)) kG U).wp K U (fun kY U =>
 (aA (some (51, 3)) (some [.int .u8 0, .str [], .int .i64 0]) 1 false [(0, kY)]).wp K U (fun nA U =>
 (dc (some (51, 3)) false wL nA U).wp K U (fun qt U =>
 (ag (some 1) kG).wp K U (fun lF U =>
 (av aQ lF U).wp K U (fun rM U =>
 (bD (some true) rM).wp K U (fun v70 U =>
 (aq .add aG false de v70).wp K U (fun jq U =>
 lp fD qt lx jq U) (aa R)) (aa R)) (aa R)) (aa R)) (aa R)) (aa R)) (aa R))) (aa R)) fun j =>
 (aq .eql aG true v51 (.int .i64 0)).wp K U (fun v53 U =>
 ae K (au v53 true) (aw.val v6) (fun gD =>
 ae K (au v53 true) (bD (some false) gD) (fun lE =>
 ae K (au v53 true) (aq .eql aG true lE (.int .i64 900)) (fun jx =>
 (aY v53 jx (.bool false)).wp K U (fun kX U =>
 ao kX (
 j v0 v6 v7 v8 v10 (.int .i64 5) U) (
 j v0 v6 v7 v8 v10 v51 U)) (aa R))))) (aa R)) (aa R)) (aa R)) (aa R)) (aa R)) (aa R)))) (aa R)) (aa R))) (aa R)))))) (aa R)) (aa R)) (
 al R (.aU [v6, v7, (.int .i64 0), (.int .i64 0)]) U)) (aa R)) (aa R)
def Nu : Prop :=
 (fun ay : St =>
 ar K (aI a0) (fun v4 =>
 ar K (ag (some 1) v4) (fun v5 =>
 ar K (av aQ v5 ay) (fun v6 =>
 ar K (aI a0) (fun v8 =>
 ar K (ag (some 0) v8) (fun v9 =>
 ar K (av aQ v9 ay) (fun v10 =>
 ar K (bD (some false) v10) (fun v11 =>
 ar K (aq .lss aG false v6 v11) (fun v12 =>
 ao v12 (
 (fun gS : St =>
 ar K (aI a0) (fun bS =>
 ar K (ag (some 0) bS) (fun bw =>
 ar K (av aQ bw gS) (fun ca =>
 ar K (aI a0) (fun ck =>
 ar K (ag (some 1) ck) (fun cn =>
 ar K (av aQ cn gS) (fun v20 =>
 ar K (aH (some (51, 3)) none ca v20) (fun v21 =>
 ar K (ag (some 2) v21) (fun bY =>
 ar K (av aQ bY gS) (fun cR =>
 al R cR U)))))))))) U) (
 al R (.int .i64 0) U)))))))))) U
def Zd : Prop :=
 ad K 173 [a0, a1] U (ai (fun v7 U =>
 (fZ .not v7).wp K U (fun v8 U =>
 ao v8 (
 al R (.bool false) U) (
 (aI a0).wp K U (fun v10 U =>
 (ag (some 1) v10).wp K U (fun v11 U =>
 (av aQ v11 U).wp K U (fun v12 U =>
 (aq .add aG true v12 (.int .i64 1)).wp K U (fun bN U =>
 (aI a0).wp K U (fun bS U =>
 (ag (some 1) bS).wp K U (fun bw U =>
 (aD aQ bw bN U).wp K U (fun _ U =>
 al R (.bool true) U) (aa R)) (aa R)) (aa R)) (aa R)) (aa R)) (aa R)) (aa R))) (aa R)) (aa R))
def Nx : Prop :=
 ad K 174 [a0, (.int .u8 1)] U (ai (fun v4 U =>
 (fZ .not v4).wp K U (fun v5 U =>
 ao v5 (
 (aI a0).wp K U (fun v7 U =>
 (ag (some 2) v7).wp K U (fun v8 U =>
 (aD aQ v8 (.bool true) U).wp K U (fun _ U =>
 al R (.str w_) U) (aa R)) (aa R)) (aa R)) (
 (aI a0).wp K U (fun v10 U =>
 (ag (some 1) v10).wp K U (fun v11 U =>
 (av aQ v11 U).wp K U (fun v12 U =>
 (aq .add aG true v12 (.int .i64 1)).wp K U (fun bN U =>
 (aI a0).wp K U (fun bS U =>
 (ag (some 1) bS).wp K U (fun bw U =>
 (aD aQ bw bN U).wp K U (fun _ U =>
 (fun ay : St =>
 ar K (aI a0) (fun cm =>
 ar K (ag (some 0) cm) (fun ck =>
 ar K (av aQ ck ay) (fun cn =>
 ar K (aI a0) (fun v21 =>
 ar K (ag (some 1) v21) (fun bY =>
 ar K (av aQ bY ay) (fun cR =>
 ar K (aq .sub aG true cR (.int .i64 1)) (fun v24 =>
 ar K (aH (some (51, 3)) none cn v24) (fun dz =>
 ar K (ag (some 1) dz) (fun df =>
 ar K (av aQ df ay) (fun di =>
 al R di U))))))))))) U) (aa R)) (aa R)) (aa R)) (aa R)) (aa R)) (aa R)) (aa R))) (aa R)) (aa R))
def Ze : Prop :=
 ad K 113 [a0] U (ai (fun v7 U =>
 ad K 173 [a0, a1] U (ai (fun v10 U =>
 (fZ .not v10).wp K U (fun v11 U =>
 ao v11 (
 (aI a0).wp K U (fun bN U =>
 (ag (some 2) bN).wp K U (fun bS U =>
 (aD aQ bS (.bool true) U).wp K U (fun _ U =>
 al R (.int .i64 0) U) (aa R)) (aa R)) (aa R)) (
 (aI a0).wp K U (fun ca U =>
 (ag (some 1) ca).wp K U (fun cm U =>
 (av aQ cm U).wp K U (fun ck U =>
 (aq .add aG true ck (.int .i64 1)).wp K U (fun cn U =>
 (aI a0).wp K U (fun v20 U =>
 (ag (some 1) v20).wp K U (fun v21 U =>
 (aD aQ v21 cn U).wp K U (fun _ U =>
 al R v7 U) (aa R)) (aa R)) (aa R)) (aa R)) (aa R)) (aa R)) (aa R))) (aa R)) (aa R))) (aa R))
def NA : Prop :=
 ad K 113 [a0] U (ai (fun v6 U =>
 ad K 114 [a0, (.str fR)] U (ai (fun v8 U =>
 (fZ .not v8).wp K U (fun v9 U =>
 ao v9 (
 ad K 119 [a0] U (ai (fun v11 U =>
 al R v11 U) (aa R))) (
 ad K 119 [a0] U (ai (fun bN U =>
 cD 3 [a0, v6, bN] U fun lp v0 v3 v4 U =>
 ad K 114 [v0, (.str nB)] U (ai (fun bw U =>
 ao bw (
 ad K 119 [v0] U (ai (fun ck U =>
 (dc (some (43, 6)) false v4 ck U).wp K U (fun cn U =>
 lp v0 v3 cn U) (aa R)) (aa R))) (
 ad K 116 [v0, (.str eF)] U (ai (fun v21 U =>
 ad K 116 [v0, (.str gy)] U (ai (fun cR U =>
 (bE (some [(0, 1), (1, 1), (2, 1), (3, 1), (4, 1), (5, 1)]) (some [.int .u8 0, .str [], .int .i64 0, .int .i64 0, .int .i64 0, .int .i64 0]) none [(0, (.int .u8 8)), (4, v3)]).wp K U (fun dz U =>
 ad K 119 [v0] U (ai (fun v28 U =>
 (aA (some (23, 1)) (some [.ak]) 2 false [(0, v4), (1, v28)]).wp K U (fun cO U =>
 ad K 60 [dz, cO] U (ai (fun v30 U =>
 al R v30 U) (aa R))) (aa R)) (aa R))) (aa R)) (aa R))) (aa R)))) (aa R))) (aa R)))) (aa R)) (aa R))) (aa R))
def NC : Prop :=
 ad K 113 [a0] U (ai (fun v6 U =>
 ad K 115 [a0] U (ai (fun v8 U =>
 ad K 116 [a0, (.str ja)] U (ai (fun v10 U =>
 (bE (some [(0, 1), (1, 1), (2, 1), (3, 1), (4, 1), (5, 1)]) (some [.int .u8 0, .str [], .int .i64 0, .int .i64 0, .int .i64 0, .int .i64 0]) none [(0, (.int .u8 5)), (1, v8), (4, v6)]).wp K U (fun bN U =>
 ad K 117 [a0] U (ai (fun bw U =>
 (aA (some (23, 1)) (some [.ak]) 1 false [(0, bw)]).wp K U (fun ca U =>
 ad K 60 [bN, ca] U (ai (fun cm U =>
 al R cm U) (aa R))) (aa R)) (aa R))) (aa R)) (aa R))) (aa R))) (aa R))
def NF : Prop :=
 ad K 113 [a0] U (ai (fun v5 U =>
 ad K 114 [a0, (.str Ce)] U (ai (fun v8 U =>
 ao v8 (
 (bE (some [(0, 1), (1, 1), (2, 1), (3, 1), (4, 1), (5, 1)]) (some [.int .u8 0, .str [], .int .i64 0, .int .i64 0, .int .i64 0, .int .i64 0]) none [(0, (.int .u8 6)), (2, (.int .i64 1)), (4, v5)]).wp K U (fun v10 U =>
 ad K 60 [v10, .ak] U (ai (fun v11 U =>
 al R v11 U) (aa R))) (aa R)) (
 ad K 114 [a0, (.str yP)] U (ai (fun bS U =>
 ao bS (
 (bE (some [(0, 1), (1, 1), (2, 1), (3, 1), (4, 1), (5, 1)]) (some [.int .u8 0, .str [], .int .i64 0, .int .i64 0, .int .i64 0, .int .i64 0]) none [(0, (.int .u8 6)), (2, (.int .i64 2)), (4, v5)]).wp K U (fun ca U =>
 ad K 60 [ca, .ak] U (ai (fun cm U =>
 al R cm U) (aa R))) (aa R)) (
 ad K 114 [a0, (.str wN)] U (ai (fun v20 U =>
 ao v20 (
 ad K 175 [a0] U (ai (fun bY U =>
 (bE (some [(0, 1), (1, 1), (2, 1), (3, 1), (4, 1), (5, 1)]) (some [.int .u8 0, .str [], .int .i64 0, .int .i64 0, .int .i64 0, .int .i64 0]) none [(0, (.int .u8 6)), (2, bY), (4, v5)]).wp K U (fun v24 U =>
 ad K 60 [v24, .ak] U (ai (fun dz U =>
 al R dz U) (aa R))) (aa R)) (aa R))) (
 ad K 116 [a0, (.str rN)] U (ai (fun di U =>
 ad K 175 [a0] U (ai (fun cO U =>
 (bE (some [(0, 1), (1, 1), (2, 1), (3, 1), (4, 1), (5, 1)]) (some [.int .u8 0, .str [], .int .i64 0, .int .i64 0, .int .i64 0, .int .i64 0]) none [(0, (.int .u8 7)), (2, cO), (4, v5)]).wp K U (fun v31 U =>
 ad K 60 [v31, .ak] U (ai (fun ep U =>
 al R ep U) (aa R))) (aa R)) (aa R))) (aa R)))) (aa R)))) (aa R)))) (aa R))) (aa R))
def NH : Prop :=
 ad K 176 [a0] U (ai (fun v9 U =>
 gb 3 (fun v3 v4 v5 U =>
 (aq .eql aG true v5 (.int .i64 1)).wp K U (fun jH U =>
 ao jH (
 al R v3 U) (
 (bE (some [(0, 1), (1, 1), (2, 1), (3, 1), (4, 1), (5, 1)]) (some [.int .u8 0, .str [], .int .i64 0, .int .i64 0, .int .i64 0, .int .i64 0]) none [(0, (.int .u8 9)), (4, v4)]).wp K U (fun fx U =>
 (aA (some (23, 1)) (some [.ak]) 1 false [(0, v3)]).wp K U (fun iD U =>
 ad K 60 [fx, iD] U (ai (fun v53 U =>
 al R v53 U) (aa R))) (aa R)) (aa R))) (aa R)) fun j =>
 cD 4 [a0, v9, (.int .i64 0), (.int .i64 1)] U fun lp v0 fI ee ek U =>
 (fun ay : St => ∃ B : List Nat,
 ad K 173 [v0, (.str gE)] U (ai (fun v11 U => cv (B) ay U /\
 ae K (au v11 true) (aw.val v0) (fun bN =>
 ae K (au v11 true) (aI bN) (fun bS =>
 ae K (au v11 true) (ag (some 1) bS) (fun bw =>
 (∀ b ∈ cr bw ++ [], b ∈ B) /\
 ae K (au v11 true) (av aQ bw ay) (fun ca =>
 ae K (au v11 true) (aq .add aG true ca (.int .i64 1)) (fun cm =>
 ae K (au v11 true) (aw.val v0) (fun ck =>
 ae K (au v11 true) (aI ck) (fun cn =>
 ae K (au v11 true) (ag (some 0) cn) (fun v20 =>
 (∀ b ∈ cr v20 ++ [], b ∈ B) /\
 ae K (au v11 true) (av aQ v20 ay) (fun v21 =>
 ae K (au v11 true) (bD (some false) v21) (fun bY =>
 ae K (au v11 true) (aq .lss aG false cm bY) (fun cR =>
 ar K (aY v11 cR (.bool false)) (fun v24 =>
 ao v24 (
 (aI v0).wp K U (fun df U =>
 (ag (some 1) df).wp K U (fun di U =>
 (av aQ di U).wp K U (fun v28 U =>
 ad K 116 [v0, (.str gE)] U (ai (fun v30 U =>
 ad K 177 [v0] U (ai (fun ep U =>
 ao ep (
 (aI v0).wp K U (fun ef U =>
 (ag (some 1) ef).wp K U (fun dH U =>
 (aD aQ dH v28 U).wp K U (fun _ U =>
 j fI ee ek U) (aa R)) (aa R)) (aa R)) (
 gb 4 (fun fD uK acR yN U =>
 ad K 176 [fD] U (ai (fun kD U =>
 (dc (some (43, 6)) false uK kD U).wp K U (fun eJ U =>
 (aq .add aG true yN (.int .i64 1)).wp K U (fun ig U =>
 lp fD eJ acR ig U) (aa R)) (aa R)) (aa R))) fun tL =>
 (aq .eql aG true ek (.int .i64 1)).wp K U (fun eL U =>
 ao eL (
 tL v0 fI v30 ek U) (
 tL v0 fI ee ek U)) (aa R))) (aa R))) (aa R))) (aa R)) (aa R)) (aa R)) (
 j fI ee ek U)))))))))))))) (aa R))) U) (aa R))
def NJ : Prop :=
 (jb a0).wp K U (fun v2 U =>
 (ag (some 0) v2).wp K U (fun v5 U =>
 (av aQ v5 U).wp K U (fun v6 U =>
 (aq .eql aG true v6 (.int .u8 3)).wp K U (fun v7 U =>
 ae K (au v7 false) (ag (some 0) v2) (fun v9 =>
 ae K (au v7 false) (av aQ v9 U) (fun v10 =>
 ae K (au v7 false) (aq .eql aG true v10 (.int .u8 4)) (fun v11 =>
 (aY v7 (.bool true) v11).wp K U (fun v12 U =>
 ae K (au v12 true) (aw.val a1) (fun bS =>
 ae K (au v12 true) (ag (some 1) v2) (fun bw =>
 ae K (au v12 true) (av aQ bw U) (fun ca =>
 ae K (au v12 true) (aw.enter 178 [bS, ca]) (fun cm =>
 (aY v12 cm (.bool false)).wp K U (fun ck U =>
 al R ck U) (aa R)))))) (aa R))))) (aa R)) (aa R)) (aa R)) (aa R)
def NL : Prop :=
 ad K 210 [a0, a1] U (ai (fun v10 U =>
 (aq .eql aG true v10 (.int .i64 (-1))).wp K U (fun v12 U =>
 ao v12 (
 al R a0 U) (
 (aq .add aG true v10 (.int .i64 1)).wp K U (fun bw U =>
 cD 4 [a0, a1, v10, bw] U fun lp v0 v1 v5 v6 U =>
 (bD (some false) v0).wp K U (fun ck U =>
 (aq .lss aG false v6 ck).wp K U (fun cn U =>
 ao cn (
 gb 4 (fun fD gi ek wL U =>
 (aq .add aG true wL (.int .i64 1)).wp K U (fun v21 U =>
 lp fD gi ek v21 U) (aa R)) fun j =>
 (aH (some (3, 1)) none v0 v6).wp K U (fun v24 U =>
 (av aQ v24 U).wp K U (fun dz U =>
 (lz K.P v1 [dz]).wp K U (fun v28 U =>
 (fZ .not v28).wp K U (fun cO U =>
 ao cO (
 (aH (some (3, 1)) none v0 v5).wp K U (fun dY U =>
 (aD aQ dY dz U).wp K U (fun _ U =>
 (aq .add aG true v5 (.int .i64 1)).wp K U (fun ef U =>
 j v0 v1 ef v6 U) (aa R)) (aa R)) (aa R)) (
 j v0 v1 v5 v6 U)) (aa R)) (aa R)) (aa R)) (aa R)) (
 (fW false (some (3, 1)) v0 (some v5) none).wp K U (fun eL U =>
 (AZ (some (3, 1)) (some [.int .i64 0]) eL U).wp K U (fun _ U =>
 (fW false (some (3, 1)) v0 none (some v5)).wp K U (fun gT U =>
 al R gT U) (aa R)) (aa R)) (aa R))) (aa R)) (aa R)) (aa R))) (aa R)) (aa R))
def NN : Prop :=
 (av aQ a1 U).wp K U (fun v5 U =>
 (aq .leq aG false a0 v5).wp K U (fun v6 U =>
 al R v6 U) (aa R)) (aa R)
def NP : Prop :=
 gb 1 (fun v4 U =>
 ao v4 (
 al R (.bool true) U) (
 al R (.bool false) U)) fun j =>
 (aq .eql aG true a0 (.int .u8 2)).wp K U (fun v5 U =>
 ao v5 (
 j v5 U) (
 (aq .eql aG true a0 (.int .u8 3)).wp K U (fun v6 U =>
 ao v6 (
 j v6 U) (
 (aq .eql aG true a0 (.int .u8 4)).wp K U (fun v7 U =>
 ao v7 (
 j v7 U) (
 (aq .eql aG true a0 (.int .u8 5)).wp K U (fun v8 U =>
 ao v8 (
 j v8 U) (
 (aq .eql aG true a0 (.int .u8 12)).wp K U (fun v9 U =>
 ao v9 (
 j v9 U) (
 (aq .eql aG true a0 (.int .u8 13)).wp K U (fun v10 U =>
 ao v10 (
 j v10 U) (
 (aq .eql aG true a0 (.int .u8 14)).wp K U (fun v11 U =>
 ao v11 (
 j v11 U) (
 (aq .eql aG true a0 (.int .u8 16)).wp K U (fun v12 U =>
 ao v12 (
 j v12 U) (
 (aq .eql aG true a0 (.int .u8 31)).wp K U (fun bN U =>
 ao bN (
 j bN U) (
 (aq .eql aG true a0 (.int .u8 32)).wp K U (fun bS U =>
 ao bS (
 j bS U) (
 (aq .eql aG true a0 (.int .u8 33)).wp K U (fun bw U =>
 ao bw (
 j bw U) (
 (aq .eql aG true a0 (.int .u8 34)).wp K U (fun ca U =>
 ao ca (
 j ca U) (
 (aq .eql aG true a0 (.int .u8 37)).wp K U (fun cm U =>
 j cm U) (aa R))) (aa R))) (aa R))) (aa R))) (aa R))) (aa R))) (aa R))) (aa R))) (aa R))) (aa R))) (aa R))) (aa R))) (aa R)
def NR : Prop :=
 (bE (some [(0, 1), (1, 1), (2, 1)]) (some [.int .u8 0, .str [], .int .i64 0]) none [(0, (.int .u8 1)), (1, a0)]).wp K U (fun v4 U =>
 ad K 211 [v4] U (ai (fun v5 U =>
 al R v5 U) (aa R))) (aa R)
def NT : Prop :=
 ad K 141 [a0] U (ai (fun v4 U =>
 ae K (au v4 false) (aw.val a0) (fun v6 =>
 ae K (au v4 false) (aq .eql aG true v6 (.int .u8 12)) (fun v7 =>
 (aY v4 (.bool true) v7).wp K U (fun v8 U =>
 ae K (au v8 false) (aw.val a0) (fun v10 =>
 ae K (au v8 false) (aq .eql aG true v10 (.int .u8 14)) (fun v11 =>
 (aY v8 (.bool true) v11).wp K U (fun v12 U =>
 ae K (au v12 false) (aw.val a0) (fun bS =>
 ae K (au v12 false) (aq .eql aG true bS (.int .u8 25)) (fun bw =>
 (aY v12 (.bool true) bw).wp K U (fun ca U =>
 ae K (au ca false) (aw.val a0) (fun ck =>
 ae K (au ca false) (aq .eql aG true ck (.int .u8 26)) (fun cn =>
 (aY ca (.bool true) cn).wp K U (fun v20 U =>
 al R v20 U) (aa R)))) (aa R)))) (aa R)))) (aa R)))) (aa R))
def NW : Prop :=
 (aq .geq aG true a0 (.int .i64 0)).wp K U (fun v4 U =>
 ae K (au v4 true) (aw.val a0) (fun v6 =>
 ae K (au v4 true) (aq .leq aG true v6 (.int .i64 1000000)) (fun v7 =>
 (aY v4 v7 (.bool false)).wp K U (fun v8 U =>
 al R v8 U) (aa R)))) (aa R)
def NY : Prop :=
 cD 2 [a0, (.int .i64 0)] U fun lp v0 v3 U =>
 (bD (some false) v0).wp K U (fun v6 U =>
 (aq .lss aG false v3 v6).wp K U (fun v7 U =>
 ao v7 (
 (aH (some (5, 1)) none v0 v3).wp K U (fun v12 U =>
 (av aQ v12 U).wp K U (fun bN U =>
 ad K 191 [bN] U (ai (fun bS U =>
 (fZ .not bS).wp K U (fun bw U =>
 ao bw (
 al R (.bool false) U) (
 (aq .add aG true v3 (.int .i64 1)).wp K U (fun v9 U =>
 lp v0 v9 U) (aa R))) (aa R)) (aa R))) (aa R)) (aa R)) (
 al R (.bool true) U)) (aa R)) (aa R)
def N0 : Prop :=
 ad K 141 [a0] U (ai (fun v4 U =>
 ae K (au v4 false) (aw.val a0) (fun v6 =>
 ae K (au v4 false) (aq .eql aG true v6 (.int .u8 8)) (fun v7 =>
 (aY v4 (.bool true) v7).wp K U (fun v8 U =>
 al R v8 U) (aa R)))) (aa R))
def N2 : Prop :=
 cD 3 [a0, a1, (.int .i64 0)] U fun lp v0 v1 v5 U =>
 (bD (some false) v0).wp K U (fun v8 U =>
 (aq .lss aG false v5 v8).wp K U (fun v9 U =>
 ao v9 (
 (aH (some (5, 1)) none v0 v5).wp K U (fun bS U =>
 (av aQ bS U).wp K U (fun bw U =>
 (aq .neq aG false bw v1).wp K U (fun cm U =>
 ao cm (
 al R (.bool false) U) (
 (aq .add aG true v5 (.int .i64 1)).wp K U (fun v11 U =>
 lp v0 v1 v11 U) (aa R))) (aa R)) (aa R)) (aa R)) (
 al R (.bool true) U)) (aa R)) (aa R)
def N4 : Prop :=
 (aq .eql aG true a0 (.int .u8 6)).wp K U (fun v4 U =>
 ae K (au v4 false) (aw.val a0) (fun v6 =>
 ae K (au v4 false) (aq .eql aG true v6 (.int .u8 7)) (fun v7 =>
 (aY v4 (.bool true) v7).wp K U (fun v8 U =>
 al R v8 U) (aa R)))) (aa R)
def N6 : Prop :=
 (aq .geq aG true a0 (.int .u8 9)).wp K U (fun v4 U =>
 ae K (au v4 true) (aw.val a0) (fun v6 =>
 ae K (au v4 true) (aq .leq aG true v6 (.int .u8 34)) (fun v7 =>
 (aY v4 v7 (.bool false)).wp K U (fun v8 U =>
 al R v8 U) (aa R)))) (aa R)
def N8 : Prop :=
 cD 2 [a0, (.int .i64 0)] U fun lp v0 v3 U =>
 (bD (some false) v0).wp K U (fun v6 U =>
 (aq .lss aG false v3 v6).wp K U (fun v7 U =>
 ao v7 (
 (aH (some (5, 1)) none v0 v3).wp K U (fun v12 U =>
 (av aQ v12 U).wp K U (fun bN U =>
 ad K 141 [bN] U (ai (fun bS U =>
 (fZ .not bS).wp K U (fun bw U =>
 ao bw (
 al R (.bool false) U) (
 (aq .add aG true v3 (.int .i64 1)).wp K U (fun v9 U =>
 lp v0 v9 U) (aa R))) (aa R)) (aa R))) (aa R)) (aa R)) (
 al R (.bool true) U)) (aa R)) (aa R)
def Oa : Prop :=
 cD 2 [a0, (.int .i64 0)] U fun lp v0 v3 U =>
 (bD (some false) v0).wp K U (fun v6 U =>
 (aq .lss aG false v3 v6).wp K U (fun v7 U =>
 ao v7 (
 (aH (some (5, 1)) none v0 v3).wp K U (fun v12 U =>
 (av aQ v12 U).wp K U (fun bN U =>
 ad K 142 [bN] U (ai (fun bS U =>
 (fZ .not bS).wp K U (fun bw U =>
 ao bw (
 al R (.bool false) U) (
 (aq .add aG true v3 (.int .i64 1)).wp K U (fun v9 U =>
 lp v0 v9 U) (aa R))) (aa R)) (aa R))) (aa R)) (aa R)) (
 al R (.bool true) U)) (aa R)) (aa R)
def Oc : Prop :=
 cD 2 [a0, (.int .i64 0)] U fun lp v0 v3 U =>
 (bD (some false) v0).wp K U (fun v6 U =>
 (aq .lss aG false v3 v6).wp K U (fun v7 U =>
 ao v7 (
 (aH (some (5, 1)) none v0 v3).wp K U (fun v12 U =>
 (av aQ v12 U).wp K U (fun bN U =>
 ad K 142 [bN] U (ai (fun bS U =>
 (fZ .not bS).wp K U (fun bw U =>
 ae K (au bw true) (aw.val v0) (fun cm =>
 ae K (au bw true) (aw.val v3) (fun ck =>
 ae K (au bw true) (aH (some (5, 1)) none cm ck) (fun cn =>
 ae K (au bw true) (av aQ cn U) (fun v20 =>
 ae K (au bw true) (aq .neq aG true v20 (.int .u8 35)) (fun v21 =>
 (aY bw v21 (.bool false)).wp K U (fun bY U =>
 ae K (au bY true) (aw.val v0) (fun v24 =>
 ae K (au bY true) (aw.val v3) (fun dz =>
 ae K (au bY true) (aH (some (5, 1)) none v24 dz) (fun df =>
 ae K (au bY true) (av aQ df U) (fun di =>
 ae K (au bY true) (aq .neq aG true di (.int .u8 36)) (fun v28 =>
 (aY bY v28 (.bool false)).wp K U (fun cO U =>
 ao cO (
 al R (.bool false) U) (
 (aq .add aG true v3 (.int .i64 1)).wp K U (fun v9 U =>
 lp v0 v9 U) (aa R))) (aa R))))))) (aa R))))))) (aa R)) (aa R))) (aa R)) (aa R)) (
 al R (.bool true) U)) (aa R)) (aa R)
def Oe : Prop :=
 (aA (some (178, 1)) (some [.int .i64 0]) 1 false [(0, (.int .i64 0))]).wp K U (fun v4 U =>
 ad K 151 [a0, v4] U (ai (fun v5 U =>
 (fZ .not v5).wp K U (fun v6 U =>
 al R v6 U) (aa R)) (aa R))) (aa R)
def Og : Prop :=
 cD 4 [a0, a1, a2, (.int .i64 0)] U fun lp v0 v1 v2 v4 U =>
 (av aQ v1 U).wp K U (fun v9 U =>
 (bD (some true) v9).wp K U (fun v10 U =>
 (aq .lss aG false v4 v10).wp K U (fun v11 U =>
 ao v11 (
 (av aQ v1 U).wp K U (fun v12 U =>
 (dU true none none v12 v4).wp K U (fun bS U =>
 gb 6 (fun fD gi eS ee wJ v24 U =>
 ao v24 (
 (aq .add aG true ee (.int .i64 1)).wp K U (fun v28 U =>
 lp fD gi eS v28 U) (aa R)) (
 (aq .eql aG true wJ (.int .u8 126)).wp K U (fun v30 U =>
 ao v30 (
 (av aQ gi U).wp K U (fun ep U =>
 (fW true none ep (some ee) none).wp K U (fun eK U =>
 ad K 148 [eK, (.str Ca)] U (ai (fun ef U =>
 (aX ef 0).wp K U (fun dH U =>
 (aX ef 1).wp K U (fun v37 U =>
 (aX ef 2).wp K U (fun eL U =>
 (lz K.P fD [ee, dH]).wp K U (fun kD U =>
 (fZ .not kD).wp K U (fun eJ U =>
 ao eJ (
 al R (.aU []) U) (
 (bD (some true) dH).wp K U (fun v46 U =>
 (aq .add aG false ee v46).wp K U (fun jH U =>
 lp fD gi eS jH U) (aa R)) (aa R))) (aa R)) (aa R)) (aa R)) (aa R)) (aa R)) (aa R))) (aa R)) (aa R)) (
 (lz K.P fD [ee, (.str w_)]).wp K U (fun cm U =>
 (fZ .not cm).wp K U (fun ck U =>
 ao ck (
 al R (.aU []) U) (
 (av aQ eS U).wp K U (fun v20 U =>
 (lz K.P v20 [ee]).wp K U (fun bY U =>
 (aq .add aG false ee bY).wp K U (fun cR U =>
 lp fD gi eS cR U) (aa R)) (aa R)) (aa R))) (aa R)) (aa R))) (aa R))) fun j =>
 (aq .eql aG true bS (.int .u8 32)).wp K U (fun dz U =>
 ao dz (
 j v0 v1 v2 v4 bS dz U) (
 (aq .eql aG true bS (.int .u8 10)).wp K U (fun df U =>
 j v0 v1 v2 v4 bS df U) (aa R))) (aa R)) (aa R)) (aa R)) (
 al R (.aU []) U)) (aa R)) (aa R)) (aa R)
def Zf : Prop :=
 ad K 212 [a0, a1] U (ai (fun v9 U =>
 (aX v9 0).wp K U (fun v10 U =>
 (aX v9 1).wp K U (fun v11 U =>
 (aX v9 2).wp K U (fun v12 U =>
 al R (.aU [v10, v11, v12]) U) (aa R)) (aa R)) (aa R)) (aa R))
def Oj : Prop :=
 cD 2 [a0, (.int .i64 0)] U fun lp v0 v2 U =>
 (bD (some true) v0).wp K U (fun v5 U =>
 (aq .lss aG false v2 v5).wp K U (fun v6 U =>
 ae K (au v6 true) (aw.val v0) (fun v8 =>
 ae K (au v6 true) (aw.val v2) (fun v9 =>
 ae K (au v6 true) (dU true none none v8 v9) (fun v10 =>
 ae K (au v6 true) (aA (some (178, 1)) (some [.int .i64 0]) 3 false [(0, (.int .i64 2)), (1, (.int .i64 3)), (2, (.int .i64 4))]) (fun v11 =>
 ae K (au v6 true) (aw.enter 151 [v10, v11]) (fun v12 =>
 (aY v6 v12 (.bool false)).wp K U (fun bN U =>
 ao bN (
 (aq .add aG true v2 (.int .i64 1)).wp K U (fun bw U =>
 lp v0 bw U) (aa R)) (
 al R v2 U)) (aa R))))))) (aa R)) (aa R)
def Ol : Prop :=
 (aw.cJ [.int .u8 0, .str [], .int .i64 0]).wp K U (fun v2 U =>
 (bE none (some [.str [], .str []]) (some (2, 9, 1)) [(0, (.str cx)), (1, (.str gy))]).wp K U (fun v6 U =>
 cD 4 [a0, v2, v6, (.int .i64 0)] U fun lp v0 eS wL v7 U =>
 (aq .lss aG true v7 (.int .i64 2)).wp K U (fun v8 U =>
 ao v8 (
 (dU false (some (2, 9, 1)) aQ wL v7).wp K U (fun v9 U =>
 ad K 213 [v0, v9] U (ai (fun v12 U =>
 ao v12 (
 (bE (some [(0, 1), (1, 1), (2, 1)]) (some [.int .u8 0, .str [], .int .i64 0]) none [(0, (.int .u8 4)), (1, v9)]).wp K U (fun bS U =>
 (aD (some (true, 3)) eS bS U).wp K U (fun _ U =>
 bL (some (true, 3)) eS U fun r0 =>
 al R (.aU [r0, (.int .i64 0)]) U) (aa R)) (aa R)) (
 (aq .add aG true v7 (.int .i64 1)).wp K U (fun bw U =>
 lp v0 eS wL bw U) (aa R))) (aa R))) (aa R)) (
 (aq .eql aG true v0 (.str w_)).wp K U (fun cm U =>
 ae K (au cm false) (aw.val v0) (fun cn =>
 ae K (au cm false) (dU true none none cn (.int .i64 0)) (fun v20 =>
 ae K (au cm false) (aw.enter 214 [(.str dG), v20]) (fun v21 =>
 ae K (au cm false) (aq .lss aG true v21 (.int .i64 0)) (fun bY =>
 (aY cm (.bool true) bY).wp K U (fun cR U =>
 ao cR (
 (bE (some [(0, 1), (1, 1), (2, 1)]) (some [.int .u8 0, .str [], .int .i64 0]) none []).wp K U (fun v24 U =>
 (aD (some (true, 3)) eS v24 U).wp K U (fun _ U =>
 bL (some (true, 3)) eS U fun lr =>
 al R (.aU [lr, (.int .i64 4)]) U) (aa R)) (aa R)) (
 (fW true none v0 none (some (.int .i64 1))).wp K U (fun df U =>
 (bE (some [(0, 1), (1, 1), (2, 1)]) (some [.int .u8 0, .str [], .int .i64 0]) none [(0, (.int .u8 4)), (1, df)]).wp K U (fun di U =>
 (aD (some (true, 3)) eS di U).wp K U (fun _ U =>
 bL (some (true, 3)) eS U fun po =>
 al R (.aU [po, (.int .i64 0)]) U) (aa R)) (aa R)) (aa R))) (aa R)))))) (aa R))) (aa R)) (aa R)) (aa R)
def Zg : Prop :=
 ad K 216 [a0] U (ai (fun v7 U =>
 ad K 215 [a1, v7] U (ai (fun v8 U =>
 al R v8 U) (aa R))) (aa R))
def Oo : Prop :=
 (bD (some true) a0).wp K U (fun v6 U =>
 cD 4 [a0, (.int .i64 0), v6, (.int .i64 0)] U fun lp v0 v3 wL v7 U =>
 (aq .lss aG false v7 wL).wp K U (fun v8 U =>
 ao v8 (
 (dU true none none v0 v7).wp K U (fun v12 U =>
 (aA (some (178, 1)) (some [.int .i64 0]) 1 false [(0, (.int .i64 2))]).wp K U (fun bN U =>
 ad K 151 [v12, bN] U (ai (fun bS U =>
 (fZ .not bS).wp K U (fun bw U =>
 ao bw (
 al R (.int .i64 4) U) (
 (aq .mul aG true (.int .i64 10) v3).wp K U (fun cm U =>
 (dU true none none v0 v7).wp K U (fun v20 U =>
 (aq .sub aG true v20 (.int .u8 48)).wp K U (fun v21 U =>
 (se (some .i64) true false false v21).wp K U (fun bY U =>
 (aq .add aG false cm bY).wp K U (fun cR U =>
 (ux cR (.int .i64 1000001)).wp K U (fun v24 U =>
 (aq .add aG true v7 (.int .i64 1)).wp K U (fun dz U =>
 lp v0 v24 wL dz U) (aa R)) (aa R)) (aa R)) (aa R)) (aa R)) (aa R)) (aa R))) (aa R)) (aa R))) (aa R)) (aa R)) (
 (bD (some true) v0).wp K U (fun v28 U =>
 (aq .gtr aG true v28 (.int .i64 1)).wp K U (fun cO U =>
 ae K (au cO true) (aw.val v0) (fun v31 =>
 ae K (au cO true) (dU true none none v31 (.int .i64 0)) (fun ep =>
 ae K (au cO true) (aq .eql aG true ep (.int .u8 48)) (fun dY =>
 (aY cO dY (.bool false)).wp K U (fun eK U =>
 ao eK (
 al R (.int .i64 4) U) (
 (aq .gtr aG true v3 (.int .i64 1000000)).wp K U (fun v37 U =>
 ao v37 (
 al R (.int .i64 3) U) (
 al R (.int .i64 0) U)) (aa R))) (aa R))))) (aa R)) (aa R))) (aa R)) (aa R)
def TU : Prop :=
 (jb a0).wp K U (fun v1 U =>
 (ag (some 0) v1).wp K U (fun v10 U =>
 (av aQ v10 U).wp K U (fun v11 U =>
 (bD (some false) v11).wp K U (fun bN U =>
 (aq .gtr aG true bN (.int .i64 900)).wp K U (fun bS U =>
 ao bS (
 al R (.int .i64 5) U) (
 ad K 70 [v11] U (ai (fun ca U =>
 (fZ .not ca).wp K U (fun cm U =>
 ae K (au cm false) (aw.val v11) (fun cn =>
 ae K (au cm false) (aH (some (43, 6)) none cn (.int .i64 0)) (fun v20 =>
 ae K (au cm false) (ag (some 0) v20) (fun v21 =>
 ae K (au cm false) (av aQ v21 U) (fun bY =>
 ae K (au cm false) (aq .neq aG true bY (.int .u8 1)) (fun cR =>
 (aY cm (.bool true) cR).wp K U (fun v24 U =>
 ao v24 (
 al R (.int .i64 4) U) (
 cD 2 [v11, (.int .i64 0)] U fun lp v3 v4 U =>
 (bD (some false) v3).wp K U (fun di U =>
 (aq .lss aG false v4 di).wp K U (fun v28 U =>
 ao v28 (
 ad K 67 [v3, v4] U (ai (fun dY U =>
 cD 5 [v3, v4, .ak, dY, (.int .i64 0)] U fun pg fI ee v5 v6 v7 U =>
 (bD (some false) v6).wp K U (fun dH U =>
 (aq .lss aG false v7 dH).wp K U (fun v37 U =>
 ao v37 (
 (aH (some (3, 1)) none v6 v7).wp K U (fun jv U =>
 (av aQ jv U).wp K U (fun ig U =>
 (aH (some (43, 6)) none fI ig).wp K U (fun v46 U =>
 (ag (some 0) v46).wp K U (fun jH U =>
 (av aQ jH U).wp K U (fun gp U =>
 (aA (some (5, 1)) (some [.int .u8 0]) 1 false [(0, gp)]).wp K U (fun v49 U =>
 (dc (some (5, 1)) false v5 v49 U).wp K U (fun fx U =>
 (aq .add aG true v7 (.int .i64 1)).wp K U (fun gn U =>
 pg fI ee fx v6 gn U) (aa R)) (aa R)) (aa R)) (aa R)) (aa R)) (aa R)) (aa R)) (aa R)) (
 (aq .gtr aG true ee (.int .i64 0)).wp K U (fun iD U =>
 ae K (au iD true) (aw.val fI) (fun iQ =>
 ae K (au iD true) (aw.val ee) (fun gD =>
 ae K (au iD true) (aH (some (43, 6)) none iQ gD) (fun lE =>
 ae K (au iD true) (ag (some 0) lE) (fun jx =>
 ae K (au iD true) (av aQ jx U) (fun kX =>
 ae K (au iD true) (aq .eql aG true kX (.int .u8 1)) (fun v59 =>
 (aY iD v59 (.bool false)).wp K U (fun jY U =>
 ae K (au jY false) (aw.val fI) (fun oZ =>
 ae K (au jY false) (aw.val ee) (fun jZ =>
 ae K (au jY false) (aH (some (43, 6)) none oZ jZ) (fun kY =>
 ae K (au jY false) (av (some (true, 6)) kY U) (fun nA =>
 ae K (au jY false) (aw.enter 71 [nA]) (fun qt =>
 ae K (au jY false) (fZ .not qt) (fun pP =>
 (aY jY (.bool true) pP).wp K U (fun lF U =>
 ae K (au lF false) (aw.val fI) (fun v70 =>
 ae K (au lF false) (aw.val ee) (fun jq =>
 ae K (au lF false) (aH (some (43, 6)) none v70 jq) (fun v72 =>
 ae K (au lF false) (ag (some 0) v72) (fun ua =>
 ae K (au lF false) (av aQ ua U) (fun tn =>
 ae K (au lF false) (aw.val v5) (fun v75 =>
 ae K (au lF false) (aw.enter 72 [tn, v75]) (fun v76 =>
 ae K (au lF false) (fZ .not v76) (fun zX =>
 (aY lF (.bool true) zX).wp K U (fun o0 U =>
 ao o0 (
 al R (.int .i64 4) U) (
 (aq .add aG true ee (.int .i64 1)).wp K U (fun v30 U =>
 lp fI v30 U) (aa R))) (aa R)))))))))) (aa R)))))))) (aa R)))))))) (aa R))) (aa R)) (aa R)) (aa R))) (
 ad K 73 [v3] U (ai (fun v80 U =>
 cD 3 [v3, v80, (.int .i64 0)] U fun Ga uK v8 v9 U =>
 (bD (some false) uK).wp K U (fun vC U =>
 (aq .lss aG false v9 vC).wp K U (fun B7 U =>
 ao B7 (
 (aH (some (3, 1)) none v8 v9).wp K U (fun G3 U =>
 (av aQ G3 U).wp K U (fun B9 U =>
 (aq .gtr aG true B9 (.int .i64 60)).wp K U (fun v91 U =>
 ao v91 (
 al R (.int .i64 5) U) (
 (aq .add aG true v9 (.int .i64 1)).wp K U (fun vD U =>
 Ga uK v8 vD U) (aa R))) (aa R)) (aa R)) (aa R)) (
 ad K 67 [uK, (.int .i64 0)] U (ai (fun v93 U =>
 (bD (some false) v93).wp K U (fun Ef U =>
 (aq .gtr aG true Ef (.int .i64 24)).wp K U (fun zY U =>
 ao zY (
 al R (.int .i64 5) U) (
 al R (.int .i64 0) U)) (aa R)) (aa R)) (aa R)))) (aa R)) (aa R)) (aa R)))) (aa R)) (aa R))) (aa R))))))) (aa R)) (aa R)))) (aa R)) (aa R)) (aa R)) (aa R)) (aa R)
def TV : Prop :=
 (jb a0).wp K U (fun v1 U =>
 (aw.cJ [.ak]).wp K U (fun v2 U =>
 (aw.cJ [.int .i64 0]).wp K U (fun v3 U =>
 (aw.cJ [.int .i64 0]).wp K U (fun v4 U =>
 (av aQ v1 U).wp K U (fun bS U =>
 ad K 74 [bS] U (ai (fun bw U =>
 (aX bw 0).wp K U (fun ca U =>
 (aX bw 1).wp K U (fun cm U =>
 (aq .neq aG true cm (.int .i64 0)).wp K U (fun cn U =>
 ao cn (
 (aD aQ v2 .ak U).wp K U (fun _ U =>
 (aD aQ v3 ca U).wp K U (fun _ U =>
 (aD aQ v4 cm U).wp K U (fun _ U =>
 bL aQ v2 U fun r0 =>
 bL aQ v3 U fun r1 =>
 bL aQ v4 U fun r2 =>
 al R (.aU [r0, r1, r2]) U) (aa R)) (aa R)) (aa R)) (
 (aw.cJ [.ak]).wp K U (fun v7 U =>
 (av aQ v1 U).wp K U (fun cR U =>
 ad K 76 [cR, (.func (.func 75) [] [v7])] U (ai (fun dz U =>
 yu K 2 dz U (fun df di q U =>
 q.MC (fun U =>
 (aq .neq aG true di (.str w_)).wp K U (fun cO U =>
 ao cO (
 q.n U) (
 (av aQ v1 U).wp K U (fun v31 U =>
 (fW true none v31 (some df) none).wp K U (fun dY U =>
 ad K 77 [dY] U (ai (fun eK U =>
 (aX eK 0).wp K U (fun ef U =>
 (aX eK 1).wp K U (fun dH U =>
 (aw.cJ [.int .u8 0, .str [], .int .i64 0]).wp K U (fun v11 U =>
 (aD (some (true, 3)) v11 ef U).wp K U (fun _ U =>
 gb 7 (fun eS fI ee lx v9 EJ v12 U =>
 (aq .neq aG true v12 (.int .i64 0)).wp K U (fun ig U =>
 ao ig (
 (aD aQ eS .ak U).wp K U (fun _ U =>
 (aD aQ fI v9 U).wp K U (fun _ U =>
 (aD aQ ee v12 U).wp K U (fun _ U =>
 q.r U) (fun _ _ => False)) (fun _ _ => False)) (fun _ _ => False)) (
 (ag (some 2) EJ).wp K U (fun v49 U =>
 (aD aQ v49 v9 U).wp K U (fun _ U =>
 (av aQ lx U).wp K U (fun fx U =>
 (av (some (true, 3)) EJ U).wp K U (fun v51 U =>
 (aA (some (51, 3)) (some [.int .u8 0, .str [], .int .i64 0]) 1 false [(0, v51)]).wp K U (fun iD U =>
 (dc (some (51, 3)) false fx iD U).wp K U (fun v53 U =>
 (aD aQ lx v53 U).wp K U (fun _ U =>
 q.n U) (fun _ _ => False)) (fun _ _ => False)) (fun _ _ => False)) (fun _ _ => False)) (fun _ _ => False)) (fun _ _ => False)) (fun _ _ => False))) (fun _ _ => False)) fun j =>
 (aq .eql aG true dH (.int .i64 0)).wp K U (fun eL U =>
 ae K (au eL true) (av aQ v7 U) (fun v40 =>
 ae K (au eL true) (bD (some false) v40) (fun gT =>
 ae K (au eL true) (aq .eql aG true gT (.int .i64 900)) (fun kD =>
 (aY eL kD (.bool false)).wp K U (fun eJ U =>
 ao eJ (
 j v2 v3 v4 v7 df v11 (.int .i64 5) U) (
 j v2 v3 v4 v7 df v11 dH U)) (fun _ _ => False))))) (fun _ _ => False)) (fun _ _ => False)) (fun _ _ => False)) (fun _ _ => False)) (fun _ _ => False)) (fun _ _ => False))) (fun _ _ => False)) (fun _ _ => False))) (fun _ _ => False)) U) (fun U =>
 (av aQ v7 U).wp K U (fun iQ U =>
 (aD aQ v2 iQ U).wp K U (fun _ U =>
 (aD aQ v3 (.int .i64 0) U).wp K U (fun _ U =>
 (aD aQ v4 (.int .i64 0) U).wp K U (fun _ U =>
 bL aQ v2 U fun lr =>
 bL aQ v3 U fun acr =>
 bL aQ v4 U fun acv =>
 al R (.aU [lr, acr, acv]) U) (aa R)) (aa R)) (aa R)) (aa R)) (fun i U =>
 SP (Nat.beq i 0) (
 (av aQ v7 U).wp K U (fun abn U =>
 (aD aQ v2 abn U).wp K U (fun _ U =>
 (aD aQ v3 (.int .i64 0) U).wp K U (fun _ U =>
 (aD aQ v4 (.int .i64 0) U).wp K U (fun _ U =>
 bL aQ v2 U fun po =>
 bL aQ v3 U fun acs =>
 bL aQ v4 U fun acw =>
 al R (.aU [po, acs, acw]) U) (aa R)) (aa R)) (aa R)) (aa R)) (
 False)) (fun U =>
 bL aQ v2 U fun Az =>
 bL aQ v3 U fun acu =>
 bL aQ v4 U fun acx =>
 al R (.aU [Az, acu, acx]) U) (fun x U => (aa R) x U)) (aa R))) (aa R)) (aa R))) (aa R)) (aa R)) (aa R)) (aa R))) (aa R)) (aa R)) (aa R)) (aa R)) (aa R)
def TW : Prop :=
 (bD (some false) a0).wp K U (fun v7 U =>
 (bD (some false) a1).wp K U (fun v9 U =>
 (aq .neq aG false v7 v9).wp K U (fun v10 U =>
 ao v10 (
 al R (.bool false) U) (
 cD 3 [a0, a1, (.int .i64 0)] U fun lp v0 v1 v5 U =>
 (bD (some false) v0).wp K U (fun bN U =>
 (aq .lss aG false v5 bN).wp K U (fun bS U =>
 ao bS (
 (fun ay : St =>
 ar K (aH (some (43, 6)) none v0 v5) (fun cn =>
 ar K (av (some (true, 6)) cn ay) (fun v20 =>
 ar K (aH (some (43, 6)) none v1 v5) (fun cR =>
 ar K (av (some (true, 6)) cR ay) (fun v24 =>
 ar K (aq .neq (BT.mk false false false (some [.i, .s, .i, .i, .i, .i])) false v20 v24) (fun dz =>
 ao dz (
 al R (.bool false) U) (
 (aq .add aG true v5 (.int .i64 1)).wp K U (fun ca U =>
 lp v0 v1 ca U) (aa R)))))))) U) (
 al R (.bool true) U)) (aa R)) (aa R))) (aa R)) (aa R)) (aa R)
def Zn : Prop :=
 (bD (some true) a0).wp K U (fun ca U =>
 (aq .gtr aG true ca (.int .i64 3000)).wp K U (fun cm U =>
 ao cm (
 ad K 17 [] U (ai (fun ck U =>
 al R ck U) (aa R))) (
 ad K 18 [a0] U (ai (fun v21 U =>
 (aX v21 0).wp K U (fun bY U =>
 (aX v21 1).wp K U (fun cR U =>
 (aX v21 2).wp K U (fun v24 U =>
 (aw.cJ [.ak]).wp K U (fun v3 U =>
 (aD (some (true, 1)) v3 bY U).wp K U (fun _ U =>
 ad K 19 [a0] U (ai (fun di U =>
 (aX di 0).wp K U (fun v28 U =>
 (aX di 1).wp K U (fun cO U =>
 (aX di 2).wp K U (fun v30 U =>
 (aw.cJ [.ak]).wp K U (fun v6 U =>
 (aD (some (true, 1)) v6 v28 U).wp K U (fun _ U =>
 ad K 20 [a0] U (ai (fun dY U =>
 (aX dY 0).wp K U (fun eK U =>
 (aX dY 1).wp K U (fun ef U =>
 (aX dY 2).wp K U (fun dH U =>
 (aw.cJ [.ak]).wp K U (fun v9 U =>
 (aD (some (true, 1)) v9 eK U).wp K U (fun _ U =>
 ad K 21 [a0] U (ai (fun gn U =>
 (aX gn 0).wp K U (fun v40 U =>
 (aX gn 1).wp K U (fun gT U =>
 (aX gn 2).wp K U (fun kD U =>
 (aw.cJ [.ak]).wp K U (fun v12 U =>
 (aD (some (true, 1)) v12 v40 U).wp K U (fun _ U =>
 (aq .eql aG false v24 v30).wp K U (fun ig U =>
 ae K (au ig true) (aw.val cR) (fun jH =>
 ae K (au ig true) (aw.val cO) (fun gp =>
 ae K (au ig true) (aq .eql aG false jH gp) (fun v49 =>
 (aY ig v49 (.bool false)).wp K U (fun fx U =>
 ae K (au fx true) (av (some (true, 1)) v3 U) (fun iD =>
 ae K (au fx true) (av (some (true, 1)) v6 U) (fun v53 =>
 ae K (au fx true) (aw.enter 22 [iD, v53]) (fun iQ =>
 (aY fx iQ (.bool false)).wp K U (fun gD U =>
 ae K (au gD true) (aw.val dH) (fun jx =>
 ae K (au gD true) (aw.val kD) (fun kX =>
 ae K (au gD true) (aq .eql aG false jx kX) (fun v59 =>
 (aY gD v59 (.bool false)).wp K U (fun jY U =>
 ae K (au jY true) (av (some (true, 1)) v9 U) (fun oZ =>
 ae K (au jY true) (av (some (true, 1)) v12 U) (fun jZ =>
 ae K (au jY true) (aw.enter 22 [oZ, jZ]) (fun kY =>
 (aY jY kY (.bool false)).wp K U (fun nA U =>
 ae K (au nA true) (aw.val ef) (fun pP =>
 ae K (au nA true) (aw.val gT) (fun lF =>
 ae K (au nA true) (aw.enter 23 [pP, lF]) (fun rM =>
 (aY nA rM (.bool false)).wp K U (fun v70 U =>
 ae K (au v70 true) (aw.enter 17 []) (fun v72 =>
 (aY v70 v72 (.bool false)).wp K U (fun ua U =>
 al R ua U) (aa R))) (aa R))))) (aa R))))) (aa R))))) (aa R))))) (aa R))))) (aa R)) (aa R)) (aa R)) (aa R)) (aa R)) (aa R)) (aa R))) (aa R)) (aa R)) (aa R)) (aa R)) (aa R)) (aa R))) (aa R)) (aa R)) (aa R)) (aa R)) (aa R)) (aa R))) (aa R)) (aa R)) (aa R)) (aa R)) (aa R)) (aa R)))) (aa R)) (aa R)
def TO : Prop :=
 (aw.cJ [.ak]).wp K U (fun v2 U =>
 ad K 53 [a0] U (ai (fun bw U =>
 (aX bw 0).wp K U (fun ca U =>
 (aX bw 1).wp K U (fun cm U =>
 (aX bw 2).wp K U (fun ck U =>
 (aq .neq aG true ck (.int .i64 0)).wp K U (fun v20 U =>
 ao v20 (
 (bE (some [(0, 1)]) (some [.ak]) none []).wp K U (fun v21 U =>
 (aD (some (true, 1)) v2 v21 U).wp K U (fun _ U =>
 bL (some (true, 1)) v2 U fun r0 =>
 al R (.aU [r0, cm, ck]) U) (aa R)) (aa R)) (
 cD 3 [v2, ca, .ak] U fun lp eS v5 v8 U =>
 (fun ay : St =>
 ar K (aI v5) (fun dz =>
 ar K (ag (some 1) dz) (fun df =>
 ar K (av aQ df ay) (fun di =>
 ar K (aI v5) (fun cO =>
 ar K (ag (some 0) cO) (fun v30 =>
 ar K (av aQ v30 ay) (fun v31 =>
 ar K (bD (some false) v31) (fun ep =>
 ar K (aq .lss aG false di ep) (fun dY =>
 ao dY (
 ad K 54 [v5, (.func (.func 55) [v5] [])] U (ai (fun eL U =>
 (aX eL 0).wp K U (fun gn U =>
 (aX eL 1).wp K U (fun v40 U =>
 (aX eL 2).wp K U (fun gT U =>
 (fZ .not gT).wp K U (fun eJ U =>
 ao eJ (
 (bE (some [(0, 1)]) (some [.ak]) none []).wp K U (fun jv U =>
 (aD (some (true, 1)) eS jv U).wp K U (fun _ U =>
 bL (some (true, 1)) eS U fun lr =>
 al R (.aU [lr, v40, (.int .i64 4)]) U) (aa R)) (aa R)) (
 (aA (some (87, 1)) (some [.bj]) 1 false [(0, gn)]).wp K U (fun gp U =>
 (dc (some (87, 1)) false v8 gp U).wp K U (fun v49 U =>
 lp eS v5 v49 U) (aa R)) (aa R))) (aa R)) (aa R)) (aa R)) (aa R)) (aa R))) (
 ad K 56 [v8] U (ai (fun iD U =>
 (aX iD 0).wp K U (fun v53 U =>
 (aX iD 1).wp K U (fun iQ U =>
 (aw.cJ [.ak]).wp K U (fun v12 U =>
 (aD (some (true, 1)) v12 v53 U).wp K U (fun _ U =>
 (av (some (true, 1)) v12 U).wp K U (fun gD U =>
 (aD (some (true, 1)) eS gD U).wp K U (fun _ U =>
 bL (some (true, 1)) eS U fun po =>
 al R (.aU [po, (.int .i64 0), iQ]) U) (aa R)) (aa R)) (aa R)) (aa R)) (aa R)) (aa R)) (aa R)))))))))))) U)) (aa R)) (aa R)) (aa R)) (aa R)) (aa R))) (aa R)
def TP : Prop :=
 (aw.cJ [.ak]).wp K U (fun v2 U =>
 ad K 57 [a0] U (ai (fun bS U =>
 (aX bS 0).wp K U (fun bw U =>
 (aX bS 1).wp K U (fun ca U =>
 (aX bS 2).wp K U (fun cm U =>
 (aq .neq aG true cm (.int .i64 0)).wp K U (fun cn U =>
 ao cn (
 (bE (some [(0, 1)]) (some [.ak]) none []).wp K U (fun v20 U =>
 (aD (some (true, 1)) v2 v20 U).wp K U (fun _ U =>
 bL (some (true, 1)) v2 U fun r0 =>
 al R (.aU [r0, ca, cm]) U) (aa R)) (aa R)) (
 (bE (some [(0, 1), (1, 1), (2, 1)]) (some [.ak, .int .i64 0, .bool false]) none [(0, bw)]).wp K U (fun v24 U =>
 (jb v24).wp K U (fun dz U =>
 cD 5 [a0, v2, bw, dz, .ak] U fun lp v0 eS v5 v8 v9 U =>
 (aI v8).wp K U (fun di U =>
 (ag (some 1) di).wp K U (fun v28 U =>
 (av aQ v28 U).wp K U (fun cO U =>
 (bD (some false) v5).wp K U (fun v31 U =>
 (aq .lss aG false cO v31).wp K U (fun ep U =>
 ao ep (
 ad K 58 [v8] U (ai (fun ef U =>
 (dc (some (43, 6)) false v9 ef U).wp K U (fun dH U =>
 (aI v8).wp K U (fun eL U =>
 (ag (some 2) eL).wp K U (fun gn U =>
 (av aQ gn U).wp K U (fun v40 U =>
 ao v40 (
 (bE (some [(0, 1)]) (some [.ak]) none []).wp K U (fun gT U =>
 ad K 59 [v8, v0] U (ai (fun jv U =>
 (rA (some (0, false, 1)) jv).wp K U (fun ig U =>
 (aD (some (true, 1)) eS gT U).wp K U (fun _ U =>
 bL (some (true, 1)) eS U fun lr =>
 al R (.aU [lr, ig, (.int .i64 4)]) U) (aa R)) (aa R)) (aa R))) (aa R)) (
 lp v0 eS v5 v8 dH U)) (aa R)) (aa R)) (aa R)) (aa R)) (aa R))) (
 (bE (some [(0, 1), (1, 1), (2, 1), (3, 1), (4, 1), (5, 1)]) (some [.int .u8 0, .str [], .int .i64 0, .int .i64 0, .int .i64 0, .int .i64 0]) none [(0, (.int .u8 1))]).wp K U (fun v46 U =>
 (aA (some (23, 1)) (some [.ak]) 1 false [(0, v9)]).wp K U (fun gp U =>
 ad K 60 [v46, gp] U (ai (fun v49 U =>
 (bE (some [(0, 1)]) (some [.ak]) none [(0, v49)]).wp K U (fun fx U =>
 (aw.cJ [.ak]).wp K U (fun v10 U =>
 (aD (some (true, 1)) v10 fx U).wp K U (fun _ U =>
 (av (some (true, 1)) v10 U).wp K U (fun v51 U =>
 ad K 31 [v51] U (ai (fun iD U =>
 (aq .neq aG true iD (.int .i64 0)).wp K U (fun iQ U =>
 ao iQ (
 (bE (some [(0, 1)]) (some [.ak]) none []).wp K U (fun gD U =>
 (aD (some (true, 1)) eS gD U).wp K U (fun _ U =>
 bL (some (true, 1)) eS U fun po =>
 al R (.aU [po, (.int .i64 0), iD]) U) (aa R)) (aa R)) (
 (av (some (true, 1)) v10 U).wp K U (fun jx U =>
 (aD (some (true, 1)) eS jx U).wp K U (fun _ U =>
 bL (some (true, 1)) eS U fun Az =>
 al R (.aU [Az, (.int .i64 0), (.int .i64 0)]) U) (aa R)) (aa R))) (aa R)) (aa R))) (aa R)) (aa R)) (aa R)) (aa R)) (aa R))) (aa R)) (aa R))) (aa R)) (aa R)) (aa R)) (aa R)) (aa R)) (aa R)) (aa R))) (aa R)) (aa R)) (aa R)) (aa R)) (aa R))) (aa R)
def TQ : Prop :=
 (aw.cJ [.ak]).wp K U (fun v2 U =>
 ad K 53 [a0] U (ai (fun cm U =>
 (aX cm 0).wp K U (fun ck U =>
 (aX cm 1).wp K U (fun cn U =>
 (aX cm 2).wp K U (fun v20 U =>
 (aq .neq aG true v20 (.int .i64 0)).wp K U (fun bY U =>
 ao bY (
 (bE (some [(0, 1)]) (some [.ak]) none []).wp K U (fun cR U =>
 (aD (some (true, 1)) v2 cR U).wp K U (fun _ U =>
 bL (some (true, 1)) v2 U fun r0 =>
 al R (.aU [r0, .ak, v20]) U) (aa R)) (aa R)) (
 cD 4 [v2, ck, .ak, .ak] U fun lp eS v5 v8 v9 U =>
 (fun ay : St =>
 ar K (aI v5) (fun df =>
 ar K (ag (some 1) df) (fun di =>
 ar K (av aQ di ay) (fun v28 =>
 ar K (aI v5) (fun v30 =>
 ar K (ag (some 0) v30) (fun v31 =>
 ar K (av aQ v31 ay) (fun ep =>
 ar K (bD (some false) ep) (fun dY =>
 ar K (aq .lss aG false v28 dY) (fun eK =>
 ao eK (
 (aI v5).wp K U (fun dH U =>
 (ag (some 1) dH).wp K U (fun v37 U =>
 (av aQ v37 U).wp K U (fun eL U =>
 ad K 54 [v5, (.func (.func 55) [v5] [])] U (ai (fun eJ U =>
 (aX eJ 0).wp K U (fun jv U =>
 (aX eJ 1).wp K U (fun ig U =>
 (aX eJ 2).wp K U (fun v46 U =>
 ao v46 (
 (aA (some (87, 1)) (some [.bj]) 1 false [(0, jv)]).wp K U (fun fx U =>
 (dc (some (87, 1)) false v8 fx U).wp K U (fun v51 U =>
 lp eS v5 v51 v9 U) (aa R)) (aa R)) (
 (bE (some [(0, 1), (1, 1)]) (some [.int .i64 0, .int .i64 0]) none [(0, ig), (1, (.int .i64 4))]).wp K U (fun iQ U =>
 (aA (some (78, 2)) (some [.int .i64 0, .int .i64 0]) 1 false [(0, iQ)]).wp K U (fun gD U =>
 (dc (some (78, 2)) false v9 gD U).wp K U (fun lE U =>
 (aI v5).wp K U (fun v59 U =>
 (ag (some 1) v59).wp K U (fun jY U =>
 (av aQ jY U).wp K U (fun tZ U =>
 (aq .add aG true eL (.int .i64 1)).wp K U (fun jZ U =>
 (wi tZ jZ).wp K U (fun kY U =>
 (aI v5).wp K U (fun nA U =>
 (ag (some 1) nA).wp K U (fun qt U =>
 (aD aQ qt kY U).wp K U (fun _ U =>
 cD 4 [eS, v5, v8, lE] U fun pg G2 ek de ic U =>
 (fun gS : St =>
 ar K (aI ek) (fun lF =>
 ar K (ag (some 1) lF) (fun rM =>
 ar K (av aQ rM gS) (fun v70 =>
 ar K (aI ek) (fun v72 =>
 ar K (ag (some 0) v72) (fun ua =>
 ar K (av aQ ua gS) (fun tn =>
 ar K (bD (some false) tn) (fun v75 =>
 ar K (aq .lss aG false v70 v75) (fun v76 =>
 ae K (au v76 true) (aw.val ek) (fun o0 =>
 ae K (au v76 true) (aI o0) (fun yO =>
 ae K (au v76 true) (ag (some 0) yO) (fun v80 =>
 ae K (au v76 true) (av aQ v80 gS) (fun vB =>
 ae K (au v76 true) (aw.val ek) (fun Ee =>
 ae K (au v76 true) (aI Ee) (fun vC =>
 ae K (au v76 true) (ag (some 1) vC) (fun B7 =>
 ae K (au v76 true) (av aQ B7 gS) (fun v85 =>
 ae K (au v76 true) (aH (some (51, 3)) none vB v85) (fun vD =>
 ae K (au v76 true) (av (some (true, 3)) vD gS) (fun v87 =>
 ae K (au v76 true) (aw.enter 61 [v87]) (fun B8 =>
 ae K (au v76 true) (fZ .not B8) (fun G3 =>
 ar K (aY v76 G3 (.bool false)) (fun B9 =>
 ao B9 (
 (aI ek).wp K U (fun G4 U =>
 (ag (some 1) G4).wp K U (fun v93 U =>
 (av aQ v93 U).wp K U (fun Ef U =>
 (aq .add aG true Ef (.int .i64 1)).wp K U (fun zY U =>
 (aI ek).wp K U (fun Jf U =>
 (ag (some 1) Jf).wp K U (fun Eg U =>
 (aD aQ Eg zY U).wp K U (fun _ U =>
 pg G2 ek de ic U) (aa R)) (aa R)) (aa R)) (aa R)) (aa R)) (aa R)) (aa R)) (
 lp G2 ek de ic U))))))))))))))))))))))) U) (aa R)) (aa R)) (aa R)) (aa R)) (aa R)) (aa R)) (aa R)) (aa R)) (aa R)) (aa R)) (aa R))) (aa R)) (aa R)) (aa R)) (aa R))) (aa R)) (aa R)) (aa R)) (
 ad K 56 [v8] U (ai (fun yK U =>
 (aX yK 0).wp K U (fun GW U =>
 (aX yK 1).wp K U (fun yL U =>
 (aw.cJ [.ak]).wp K U (fun bS U =>
 (aD (some (true, 1)) bS GW U).wp K U (fun _ U =>
 (aq .neq aG true yL (.int .i64 0)).wp K U (fun yM U =>
 ao yM (
 (bE (some [(0, 1)]) (some [.ak]) none []).wp K U (fun v105 U =>
 (aD (some (true, 1)) eS v105 U).wp K U (fun _ U =>
 bL (some (true, 1)) eS U fun lr =>
 al R (.aU [lr, .ak, yL]) U) (aa R)) (aa R)) (
 (av (some (true, 1)) bS U).wp K U (fun v107 U =>
 (aD (some (true, 1)) eS v107 U).wp K U (fun _ U =>
 bL (some (true, 1)) eS U fun po =>
 al R (.aU [po, v9, (.int .i64 0)]) U) (aa R)) (aa R))) (aa R)) (aa R)) (aa R)) (aa R)) (aa R)) (aa R)))))))))))) U)) (aa R)) (aa R)) (aa R)) (aa R)) (aa R))) (aa R)
def TR : Prop :=
 (aw.cJ [.ak]).wp K U (fun v2 U =>
 ad K 57 [a0] U (ai (fun cm U =>
 (aX cm 0).wp K U (fun ck U =>
 (aX cm 1).wp K U (fun cn U =>
 (aX cm 2).wp K U (fun v20 U =>
 (aq .neq aG true v20 (.int .i64 0)).wp K U (fun bY U =>
 ao bY (
 (bE (some [(0, 1)]) (some [.ak]) none []).wp K U (fun cR U =>
 (aD (some (true, 1)) v2 cR U).wp K U (fun _ U =>
 bL (some (true, 1)) v2 U fun r0 =>
 al R (.aU [r0, .ak, v20]) U) (aa R)) (aa R)) (
 cD 6 [a0, v2, ck, .ak, .ak, (.int .i64 0)] U fun lp v0 eS v5 v8 v9 v10 U =>
 (bD (some false) v5).wp K U (fun di U =>
 (aq .lss aG false v10 di).wp K U (fun v28 U =>
 ao v28 (
 (bE (some [(0, 1), (1, 1), (2, 1)]) (some [.ak, .int .i64 0, .bool false]) none [(0, v5), (1, v10)]).wp K U (fun v31 U =>
 (jb v31).wp K U (fun ep U =>
 ad K 58 [ep] U (ai (fun eK U =>
 (aI ep).wp K U (fun dH U =>
 (ag (some 2) dH).wp K U (fun v37 U =>
 (av aQ v37 U).wp K U (fun eL U =>
 (fZ .not eL).wp K U (fun gn U =>
 ao gn (
 (fun ay : St =>
 ar K (aI ep) (fun jv =>
 ar K (ag (some 1) jv) (fun ig =>
 ar K (av aQ ig ay) (fun v46 =>
 (dc (some (43, 6)) false v8 eK U).wp K U (fun kD U => cv ((cr ig ++ []) ++ []) ay U /\
 lp v0 eS v5 kD v9 v46 U) (aa R))))) U) (
 ad K 59 [ep, v0] U (ai (fun fx U =>
 (aA (some (78, 2)) (some [.int .i64 0, .int .i64 0]) 1 false [(0, fx)]).wp K U (fun v51 U =>
 (dc (some (78, 2)) false v9 v51 U).wp K U (fun iD U =>
 (aI ep).wp K U (fun iQ U =>
 (ag (some 1) iQ).wp K U (fun gD U =>
 (av aQ gD U).wp K U (fun lE U =>
 (aq .add aG true v10 (.int .i64 1)).wp K U (fun kX U =>
 (wi lE kX).wp K U (fun v59 U =>
 cD 6 [v0, eS, v5, v8, iD, v59] U fun pg fD G2 ek de ic kG U =>
 (bD (some false) ek).wp K U (fun oZ U =>
 (aq .lss aG false kG oZ).wp K U (fun jZ U =>
 ae K (au jZ true) (aw.val ek) (fun nA =>
 ae K (au jZ true) (aw.val kG) (fun qt =>
 ae K (au jZ true) (aH (some (51, 3)) none nA qt) (fun pP =>
 ae K (au jZ true) (ag (some 0) pP) (fun lF =>
 ae K (au jZ true) (av aQ lF U) (fun rM =>
 ae K (au jZ true) (aq .neq aG true rM (.int .u8 3)) (fun v70 =>
 ae K (au jZ true) (aw.val v70) (fun jq =>
 ae K (au jq false) (aw.val ek) (fun v72 =>
 ae K (au jq false) (aw.val kG) (fun ua =>
 ae K (au jq false) (aH (some (51, 3)) none v72 ua) (fun tn =>
 ae K (au jq false) (ag (some 1) tn) (fun v75 =>
 ae K (au jq false) (av aQ v75 U) (fun v76 =>
 ae K (au jq false) (aq .neq aG true v76 (.str fA)) (fun zX =>
 ae K (au jq false) (aw.val zX) (fun o0 =>
 ae K (au o0 true) (aw.val ek) (fun yO =>
 ae K (au o0 true) (aw.val kG) (fun v80 =>
 ae K (au o0 true) (aH (some (51, 3)) none yO v80) (fun vB =>
 ae K (au o0 true) (ag (some 1) vB) (fun Ee =>
 ae K (au o0 true) (av aQ Ee U) (fun vC =>
 ae K (au o0 true) (aq .neq aG true vC (.str jS)) (fun B7 =>
 ae K (au jq false) (aY o0 B7 (.bool false)) (fun v85 =>
 ae K (au jq false) (aw.val v85) (fun vD =>
 ae K (au vD true) (aw.val ek) (fun v87 =>
 ae K (au vD true) (aw.val kG) (fun B8 =>
 ae K (au vD true) (aH (some (51, 3)) none v87 B8) (fun G3 =>
 ae K (au vD true) (ag (some 1) G3) (fun B9 =>
 ae K (au vD true) (av aQ B9 U) (fun v91 =>
 ae K (au vD true) (aq .neq aG true v91 (.str ff)) (fun G4 =>
 ae K (au jq false) (aY vD G4 (.bool false)) (fun v93 =>
 ae K (au jZ true) (aY jq (.bool true) v93) (fun Ef =>
 (aY jZ Ef (.bool false)).wp K U (fun zY U =>
 ao zY (
 (aq .add aG true kG (.int .i64 1)).wp K U (fun Eg U =>
 pg fD G2 ek de ic Eg U) (aa R)) (
 lp fD G2 ek de ic kG U)) (aa R)))))))))))))))))))))))))))))))) (aa R)) (aa R)) (aa R)) (aa R)) (aa R)) (aa R)) (aa R)) (aa R)) (aa R)) (aa R)))) (aa R)) (aa R)) (aa R)) (aa R)) (aa R))) (aa R)) (aa R)) (
 (bE (some [(0, 1), (1, 1), (2, 1), (3, 1), (4, 1), (5, 1)]) (some [.int .u8 0, .str [], .int .i64 0, .int .i64 0, .int .i64 0, .int .i64 0]) none [(0, (.int .u8 1))]).wp K U (fun ZF U =>
 (aA (some (23, 1)) (some [.ak]) 1 false [(0, v8)]).wp K U (fun yK U =>
 ad K 60 [ZF, yK] U (ai (fun GW U =>
 (bE (some [(0, 1)]) (some [.ak]) none [(0, GW)]).wp K U (fun yL U =>
 (aw.cJ [.ak]).wp K U (fun bN U =>
 (aD (some (true, 1)) bN yL U).wp K U (fun _ U =>
 (av (some (true, 1)) bN U).wp K U (fun Da U =>
 ad K 31 [Da] U (ai (fun yM U =>
 (aq .neq aG true yM (.int .i64 0)).wp K U (fun GX U =>
 ao GX (
 (bE (some [(0, 1)]) (some [.ak]) none []).wp K U (fun v107 U =>
 (aD (some (true, 1)) eS v107 U).wp K U (fun _ U =>
 bL (some (true, 1)) eS U fun lr =>
 al R (.aU [lr, .ak, yM]) U) (aa R)) (aa R)) (
 (av (some (true, 1)) bN U).wp K U (fun v109 U =>
 (aD (some (true, 1)) eS v109 U).wp K U (fun _ U =>
 bL (some (true, 1)) eS U fun po =>
 al R (.aU [po, v9, (.int .i64 0)]) U) (aa R)) (aa R))) (aa R)) (aa R))) (aa R)) (aa R)) (aa R)) (aa R)) (aa R))) (aa R)) (aa R))) (aa R)) (aa R))) (aa R)) (aa R)) (aa R)) (aa R)) (aa R))) (aa R)
def TS : Prop :=
 (jb a0).wp K U (fun v2 U =>
 (jb a1).wp K U (fun v3 U =>
 (ag (some 0) v2).wp K U (fun v5 U =>
 (av aQ v5 U).wp K U (fun v6 U =>
 (ag (some 0) v3).wp K U (fun v7 U =>
 (av aQ v7 U).wp K U (fun v8 U =>
 ad K 47 [v6, v8] U (ai (fun v9 U =>
 al R v9 U) (aa R))) (aa R)) (aa R)) (aa R)) (aa R)) (aa R)) (aa R)
def TT : Prop :=
 (bD (some false) a0).wp K U (fun v7 U =>
 (bD (some false) a1).wp K U (fun v9 U =>
 (aq .neq aG false v7 v9).wp K U (fun v10 U =>
 ao v10 (
 al R (.bool false) U) (
 cD 3 [a0, a1, (.int .i64 0)] U fun lp v0 v1 v5 U =>
 (bD (some false) v0).wp K U (fun bN U =>
 (aq .lss aG false v5 bN).wp K U (fun bS U =>
 ao bS (
 (fun ay : St =>
 ar K (aH (some (78, 2)) none v0 v5) (fun cn =>
 ar K (av (some (true, 2)) cn ay) (fun v20 =>
 ar K (aH (some (78, 2)) none v1 v5) (fun cR =>
 ar K (av (some (true, 2)) cR ay) (fun v24 =>
 ar K (aq .neq (BT.mk false false false (some [.i, .i])) false v20 v24) (fun dz =>
 ao dz (
 al R (.bool false) U) (
 (aq .add aG true v5 (.int .i64 1)).wp K U (fun ca U =>
 lp v0 v1 ca U) (aa R)))))))) U) (
 al R (.bool true) U)) (aa R)) (aa R))) (aa R)) (aa R)) (aa R)
end
section
variable {a0 a1 a2 a3 a4 a5 a6 : AV} {R : cS -> St -> Prop} {U : St}
theorem R1 (h : TX a0 R U) : ad K 53 [a0] U R := bA Tryz.f53 Z7 h
theorem R2 (h : TY a0 R U) : ad K 55 [a0] U R := bA Tryz.f55 Z8 h
theorem R3 (h : TZ a0 R U) : ad K 56 [a0] U R := bA Tryz.f56 Z9 h
theorem R4 (h : T0 a0 R U) : ad K 57 [a0] U R := bA Tryz.f57 aaa h
theorem R5 (h : T1 a0 R U) : ad K 58 [a0] U R := bA Tryz.f58 aab h
theorem R6 (h : T4 a0 a1 R U) : ad K 59 [a0, a1] U R := bA Tryz.f59 aac h
theorem R7 (h : T9 a0 a1 R U) : ad K 60 [a0, a1] U R := bA Tryz.f60 aad h
theorem R8 (h : Ua a0 R U) : ad K 61 [a0] U R := bA Tryz.f61 aae h
theorem R9 (h : Ub a0 a1 R U) : ad K 67 [a0, a1] U R := bA Tryz.f67 aaf h
theorem Sa (h : Uc a0 R U) : ad K 69 [a0] U R := bA Tryz.f69 aag h
theorem Sb (h : Ud a0 R U) : ad K 70 [a0] U R := bA Tryz.f70 aah h
theorem Sc (h : Ue a0 R U) : ad K 71 [a0] U R := bA Tryz.f71 aai h
theorem Sd (h : Uf a0 a1 R U) : ad K 72 [a0, a1] U R := bA Tryz.f72 aaj h
theorem Se (h : Ug a0 R U) : ad K 73 [a0] U R := bA Tryz.f73 aak h
theorem Sf (h : Uh a0 R U) : ad K 74 [a0] U R := bA Tryz.f74 aal h
theorem Sg (h : Ui a0 a1 R U) : ad K 75 [a0, a1] U R := bA Tryz.f75 aam h
theorem Sh (h : Uj a0 a1 R U) : ad K 76 [a0, a1] U R := bA Tryz.f76 aan h
theorem Si (h : Uk a0 R U) : ad K 77 [a0] U R := bA Tryz.f77 aao h
theorem Sj (h : Ul a0 a1 R U) : ad K 81 [a0, a1] U R := bA Tryz.f81 aap h
theorem Sl (h : abg a0 a1 R U) : ad K 99 [a0, a1] U R := bA Tryz.f99 aaq h
theorem M7 (h : M6 a0 a1 R U) : ad K 100 [a0, a1] U R := bA Tryz.f100 VD h
theorem M8 (h : Za a0 R U) : ad K 101 [a0] U R := bA Tryz.f101 VE h
theorem M9 (h : Zb a0 a1 R U) : ad K 102 [a0, a1] U R := bA Tryz.f102 VF h
theorem Nb (h : Na a0 a1 R U) : ad K 103 [a0, a1] U R := bA Tryz.f103 VG h
theorem Nf (h : Nc a0 R U) : ad K 104 [a0] U R := bA Tryz.f104 VH h
theorem Ng (h : Zc a0 a1 R U) : ad K 105 [a0, a1] U R := bA Tryz.f105 VI h
theorem Ea (h : GG a0 a1 a2 R U) : ad K 106 [a0, a1, a2] U R := bA Tryz.f106 VJ h
theorem Ni (h : Nh a0 R U) : ad K 107 [a0] U R := bA Tryz.f107 VK h
theorem Nk (h : Nj a0 R U) : ad K 108 [a0] U R := bA Tryz.f108 VL h
theorem Nn (h : Nl a0 R U) : ad K 109 [a0] U R := bA Tryz.f109 VM h
theorem Np (h : No a0 R U) : ad K 110 [a0] U R := bA Tryz.f110 VN h
theorem Nr (h : Nq a0 R U) : ad K 111 [a0] U R := bA Tryz.f111 VO h
theorem Nt (h : Ns a0 R U) : ad K 112 [a0] U R := bA Tryz.f112 VP h
theorem Nv (h : Nu a0 R U) : ad K 113 [a0] U R := bA Tryz.f113 VQ h
theorem Nw (h : Zd a0 a1 R U) : ad K 114 [a0, a1] U R := bA Tryz.f114 VR h
theorem Ny (h : Nx a0 R U) : ad K 115 [a0] U R := bA Tryz.f115 VS h
theorem Nz (h : Ze a0 a1 R U) : ad K 116 [a0, a1] U R := bA Tryz.f116 VT h
theorem NB (h : NA a0 R U) : ad K 117 [a0] U R := bA Tryz.f117 VU h
theorem ND (h : NC a0 R U) : ad K 118 [a0] U R := bA Tryz.f118 VV h
theorem NG (h : NF a0 R U) : ad K 119 [a0] U R := bA Tryz.f119 VW h
theorem NI (h : NH a0 R U) : ad K 120 [a0] U R := bA Tryz.f120 VX h
theorem NK (h : NJ a0 a1 R U) : ad K 121 [a0, a1] U R := bA Tryz.f121 VY h
theorem NM (h : NL a0 a1 R U) : ad K 132 [a0, a1] U R := bA Tryz.f132 VZ h
theorem NO (h : NN a0 a1 R U) : ad K 133 [a0, a1] U R := bA Tryz.f133 V4 h
theorem NQ (h : NP a0 R U) : ad K 134 [a0] U R := bA Tryz.f134 V5 h
theorem NS (h : NR a0 R U) : ad K 135 [a0] U R := bA Tryz.f135 V6 h
theorem NU (h : NT a0 R U) : ad K 136 [a0] U R := bA Tryz.f136 V7 h
theorem NX (h : NW a0 R U) : ad K 137 [a0] U R := bA Tryz.f137 V8 h
theorem NZ (h : NY a0 R U) : ad K 138 [a0] U R := bA Tryz.f138 V9 h
theorem N1 (h : N0 a0 R U) : ad K 139 [a0] U R := bA Tryz.f139 Wa h
theorem N3 (h : N2 a0 a1 R U) : ad K 140 [a0, a1] U R := bA Tryz.f140 Wb h
theorem N5 (h : N4 a0 R U) : ad K 141 [a0] U R := bA Tryz.f141 Wc h
theorem N7 (h : N6 a0 R U) : ad K 142 [a0] U R := bA Tryz.f142 Wd h
theorem N9 (h : N8 a0 R U) : ad K 143 [a0] U R := bA Tryz.f143 We h
theorem Ob (h : Oa a0 R U) : ad K 144 [a0] U R := bA Tryz.f144 Wf h
theorem Od (h : Oc a0 R U) : ad K 145 [a0] U R := bA Tryz.f145 Wg h
theorem Of (h : Oe a0 R U) : ad K 146 [a0] U R := bA Tryz.f146 Wh h
theorem Oh (h : Og a0 a1 a2 R U) : ad K 147 [a0, a1, a2] U R := bA Tryz.f147 Wi h
theorem Oi (h : Zf a0 a1 R U) : ad K 148 [a0, a1] U R := bA Tryz.f148 Wj h
theorem Ok (h : Oj a0 R U) : ad K 149 [a0] U R := bA Tryz.f149 Wl h
theorem Om (h : Ol a0 R U) : ad K 150 [a0] U R := bA Tryz.f150 Wm h
theorem On (h : Zg a0 a1 R U) : ad K 151 [a0, a1] U R := bA Tryz.f151 Wn h
theorem Oq (h : Oo a0 R U) : ad K 152 [a0] U R := bA Tryz.f152 Wo h
theorem RY (h : TU a0 R U) : ad K 31 [a0] U R := bA Tryz.f31 Z4 h
theorem RZ (h : TV a0 R U) : ad K 33 [a0] U R := bA Tryz.f33 Z5 h
theorem R0 (h : TW a0 a1 R U) : ad K 47 [a0, a1] U R := bA Tryz.f47 Z6 h
theorem Vk (h : Zn a0 R U) : ad K 3 [a0] U R := bA Tryz.f3 abB h
theorem RS (h : TO a0 R U) : ad K 18 [a0] U R := bA Tryz.f18 ZY h
theorem RT (h : TP a0 R U) : ad K 19 [a0] U R := bA Tryz.f19 ZZ h
theorem RU (h : TQ a0 R U) : ad K 20 [a0] U R := bA Tryz.f20 Z0 h
theorem RV (h : TR a0 R U) : ad K 21 [a0] U R := bA Tryz.f21 Z1 h
theorem RW (h : TS a0 a1 R U) : ad K 22 [a0, a1] U R := bA Tryz.f22 Z2 h
theorem RX (h : TT a0 a1 R U) : ad K 23 [a0, a1] U R := bA Tryz.f23 Z3 h
end
end Go.Rip
