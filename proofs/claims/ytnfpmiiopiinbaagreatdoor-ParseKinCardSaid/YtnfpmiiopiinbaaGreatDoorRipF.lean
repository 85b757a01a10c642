/- Lemmas for the proof: no conditions. -/
import Derived.Test.YtnfpmiiopiinbaaGreatDoorRipZz
import Derived.Test.YtnfpmiiopiinbaaGreatDoorRipD
set_option linter.unusedVariables false
set_option linter.unusedSimpArgs false
set_option linter.loopingSimpArgs false
set_option maxRecDepth 100000
namespace Go.Rip
open Go.Proofs
def SR : An := ai (ai .z)
def SS : An := ai (aS (aS (.rg [] [] (some ⟨[(true, 0), (true, 1), (true, 2), (true, 3), (true, 4), (true, 5), (true, 6), (true, 7), (true, 8), (true, 9), (true, 10), (true, 11), (true, 12), (true, 13), (true, 14), (true, 15), (true, 16), (true, 17), (true, 18), (true, 19), (true, 20), (true, 21), (true, 22), (true, 23), (true, 24), (true, 25), (true, 26)], [⟨32, 2, 0⟩, ⟨64, 32, 1⟩, ⟨128, 64, 2⟩, ⟨256, 128, 4⟩, ⟨512, 256, 8⟩, ⟨1024, 512, 16⟩, ⟨2048, 1026, 32⟩, ⟨4096, 3072, 96⟩, ⟨8192, 5120, 160⟩, ⟨16384, 9216, 288⟩, ⟨32768, 17408, 544⟩, ⟨65536, 33792, 1056⟩, ⟨131072, 66560, 2080⟩, ⟨262144, 132096, 4128⟩, ⟨524288, 262144, 8224⟩, ⟨1048576, 524290, 16384⟩, ⟨2097152, 1572864, 49152⟩, ⟨4194304, 2621440, 81920⟩, ⟨8388608, 4718592, 147456⟩, ⟨16777216, 8912896, 278528⟩, ⟨33554432, 17301504, 540672⟩, ⟨67108864, 524290, 16384⟩, ⟨134217728, 67633152, 2113536⟩, ⟨268435456, 134742016, 4210688⟩, ⟨536870912, 268959744, 8404992⟩, ⟨1073741824, 570949632, 17842176⟩, ⟨2147483648, 1074266112, 33570816⟩]⟩)) (.cd (ai .z) .z)) (ai (aS (ai (.bk (.lp [1, 3, 36, 37] (ai (aS (.cd .z .z) (aS (.bk (ai (ai (.cd (ai .z) .z)))) eI)))))) (ai .z))))
def SU : An := aS (.rg [1, 2] [] none) (aS (.rg [3] [] none) (aS (aS (.rg [7, 8, 9, 10] [] none) (.bk (.lp [1, 2, 3, 8, 9, 10] (aS (.rg [11] [] none) (aS (.cd .z .z) (aS (.bk (aS (.rg [4, 5, 12, 13, 14] [] none) (aS (.rg [3, 15, 16, 17] [] none) (aS (aS (.rg [18, 19, 20] [] none) (.cd (aS (.rg [2] [] none) .z) .z)) (.rg [3, 21, 22, 23, 24, 25, 26, 27] [] none))))) (.rg [10, 28] [] none))))))) (aS (.rg [6] [] none) (aS (aS (.rg [29, 30, 31] [] none) (.bk (.rf .z (.bk (.rg [33, 34] [] none))))) (aS (.rg [2, 35, 36] [] none) .z)))))
def SV : An := ai (aS (ai (.cd (ai .z) .z)) (aS (ai (.bk (.lp [0, 9, 10] (ai (aS (.cd .z .z) (aS (.bk (ai (ai (.cd (ai .z) .z)))) eI)))))) (ai .z)))
def SW : An := ai (ai .z)
def SX : An := ai (ai .z)
def SY : An := ai (ai (aS (.bk (ai (.cd (ai .z) (ai (.cd (ai .z) (ai (.cd (ai .z) (ai (.cd (ai .z) (ai (.cd (ai .z) .z))))))))))) (ai .z)))
def SZ : An := ai (ai (aS (.bk (ai (.cd (ai .z) (ai (.cd (ai .z) .z))))) (aS (ai (ai (.cd (ai (ai .z)) .z))) (ai .z))))
def S0 : An := ai (ai .z)
def S5 : An := ai (ai .z)
def S6 : An := ai (aS (.rg [] [] (some ⟨[(true, 0), (true, 1), (true, 2), (true, 3), (true, 4), (true, 5), (true, 6), (true, 7), (true, 8), (false, 9), (false, 10)], [⟨64, 8, 0⟩, ⟨128, 4, 0⟩, ⟨256, 128, 2⟩, ⟨512, 256, 4⟩, ⟨1024, 8, 0⟩, ⟨2048, 1536, 24⟩, ⟨4096, 2048, 32⟩, ⟨8192, 4096, 64⟩, ⟨16384, 8256, 129⟩, ⟨32, 0, 0⟩, ⟨0, 16416, 1023⟩]⟩)) (ai .z))
def S7 : An := ai (ai (aS (.bk (ai (.cd (ai .z) (ai (.cd (ai .z) .z))))) (aS (ai (ai (.cd (ai (ai .z)) .z))) (ai .z))))
def S8 : An := ai (aS (ai (.cd (ai .z) .z)) (ai .z))
def S9 : An := ai (ai (aS (.bk (.lp [1, 2, 5] (aS (ai (.cd .z .z)) (.bk eI)))) (ai .z)))
def Ta : An := ai (ai .z)
def OQ : An := ai (aS (ai (.cd (ai .z) .z)) (ai (ai .z)))
def OR : An := ai (ai .z)
def OS : An := ai (.cd eI .z)
def OT : An := ai (ai (ai .z))
def OU : An := ai (ai .z)
def OV : An := ai (.bk (.lp [0, 1, 2] (aS (ai (.cd .z .z)) (.bk eI))))
def OW : An := ai (ai (ai (ai (.sq (some [3, 4]) (.bk (.lp [0, 3, 4] (aS (ai (.cd .z .z)) (.bk (aS (ai (aS (.rg [] [61] none) (.cd .z .z))) (ai eI)))))) (aS (ai (.cd (ai .z) .z)) (ai .z))))))
def OX : An := ai (aS (.rg [] [178] none) .z)
def OY : An := ai (ai .z)
def OZ : An := ai (ai (ai (aS (aS (.rg [] [122, 208] none) (.cd (ai .z) .z)) (aS (aS (.rg [] [122] none) (.cd (ai .z) .z)) (ai (ai (aS (ai (.bk (.rf eI (.bk (aS (.rg [] [] (some ⟨[(true, 0), (true, 1), (true, 2), (true, 3), (true, 4), (true, 5), (true, 6), (true, 7), (true, 8), (false, 9), (false, 10)], [⟨19807040628566084398385987584, 1024, 0⟩, ⟨39614081257132168796771975168, 8, 0⟩, ⟨79228162514264337593543950336, 39614081257132168796771975168, 2⟩, ⟨158456325028528675187087900672, 79228162514264337593543950336, 4⟩, ⟨316912650057057350374175801344, 4096, 0⟩, ⟨633825300114114700748351602688, 475368975085586025561263702016, 24⟩, ⟨1267650600228229401496703205376, 633825300114114700748351602688, 32⟩, ⟨2535301200456458802993406410752, 1267650600228229401496703205376, 64⟩, ⟨5070602400912917605986812821504, 2535301200456458802993406410752, 128⟩, ⟨10141204801825835211973625643008, 5090409441541483690385198809088, 257⟩, ⟨0, 10141204801825835211973625644032, 1023⟩]⟩)) (aS (aS (.rg [] [] (some ⟨[(true, 0), (true, 1), (true, 2), (true, 3), (true, 4), (true, 5), (true, 6), (true, 7), (true, 8), (true, 9), (true, 10), (true, 11), (true, 12), (true, 13), (true, 14)], [⟨20282409603651670423947251286016, 16, 0⟩, ⟨40564819207303340847894502572032, 128, 0⟩, ⟨81129638414606681695789005144064, 40564819207303340847894502572032, 2⟩, ⟨162259276829213363391578010288128, 101412048018258352119736256430080, 5⟩, ⟨324518553658426726783156020576256, 4096, 0⟩, ⟨649037107316853453566312041152512, 486777830487640090174734030864384, 24⟩, ⟨1298074214633706907132624082305024, 8, 0⟩, ⟨2596148429267413814265248164610048, 1298074214633706907132624082305024, 64⟩, ⟨5192296858534827628530496329220096, 2596148429267413814265248164610048, 128⟩, ⟨10384593717069655257060992658440192, 4096, 0⟩, ⟨20769187434139310514121985316880384, 15576890575604482885591488987660288, 768⟩, ⟨41538374868278621028243970633760768, 20769187434139310514121985316880384, 1024⟩, ⟨83076749736557242056487941267521536, 41538374868278621028243970633760768, 2048⟩, ⟨166153499473114484112975882535043072, 83725786843874095510054253308674048, 4128⟩, ⟨332306998946228968225951765070086144, 166153499473114484112975882535043072, 8192⟩]⟩)) (.cd (ai .z) .z)) eI)))))) (ai .z))))))))
def O0 : An := ai (ai (aS (ai (.cd (ai .z) .z)) (aS (ai (.bk (.lp [0, 1, 5, 6] (aS (ai (.cd .z .z)) (.sq (some [0, 1, 5, 6]) (.bk (ai (ai (.cd (ai eI) .z)))) eI))))) (ai (ai .z)))))
def O3 : An := ai (ai .z)
def O5 : An := ai (ai .z)
def O6 : An := ai (.bk (.lp [0, 1, 2, 4] (aS (ai (.cd .z .z)) (.bk (ai (.bk (.sq (some [0, 1, 2, 4, 14, 24]) (ai (.cd .z eI)) (.cd eI (ai (.cd (ai (aS (ai (.cd .z .z)) eI)) (aS (ai (.cd .z .z)) eI)))))))))))
def O7 : An := ai (ai .z)
def O8 : An := ai (aS (.bk (.lp [0, 2] (aS (aS (.rg [] [151] none) (.cd .z .z)) (.bk eI)))) (ai .z))
def O9 : An := ai (aS (ai (.bk (.lp [0, 2, 6, 7] (ai (aS (.cd .z .z) (aS (.bk (ai (ai (.cd (ai .z) .z)))) eI)))))) (aS (aS (.rg [] [214] none) (.cd (ai .z) .z)) (ai .z)))
def Pa : An := ai (ai .z)
def Pb : An := ai (ai (aS (ai (.bk (.lp [0, 3, 6, 7] (ai (aS (.cd .z .z) (aS (.bk (ai (aS (ai (.cd (ai .z) .z)) eI))) eI)))))) (aS (.bk (ai (.cd (ai .z) (ai (.cd (ai .z) .z))))) (ai .z))))
def SM : An := ai (aS (.bk (ai (.cd (ai .z) (ai (.cd (ai .z) (ai (.cd (ai .z) .z))))))) (ai .z))
def SN : An := ai (aS (ai (ai (.cd (ai .z) .z))) (ai (ai (aS (ai (.bk (.rf (ai eI) (.bk (aS (ai (.cd .z .z)) (ai (.sq (some [2, 3, 4, 7, 9, 11, 12]) (ai (.cd eI .z)) (aS (ai (.cd (ai .z) .z)) (ai eI))))))))) (ai .z)))))
def SO : An := ai (ai .z)
def SP : An := ai (ai .z)
def SQ : An := ai (aS (ai (.cd (ai .z) .z)) (aS (ai (.bk (.lp [0, 3] (aS (ai (.cd .z .z)) (aS (.bk (ai (.cd (ai .z) .z))) eI))))) (ai .z)))
def SJ : An := aS (.rg [1, 2] [] none) (aS (.sq (some [1, 26]) (.rg [12, 13, 14, 15, 16, 17, 18, 19, 20, 21, 22, 23, 24, 25, 26] [24] none) (.cd (aS (.rg [2, 27] [] none) .z) .z)) (aS (.rg [3, 28, 29, 30, 31] [] none) (aS (aS (.rg [4] [] none) (.bk (.lp [1, 3, 4] (aS (aS (.rg [32, 33, 34, 35, 36] [] none) (.cd .z .z)) (aS (.bk (aS (.rg [5, 6, 39, 40, 41, 42, 43, 44, 45] [] none) (aS (aS (.rg [46, 47] [] none) (.cd (aS (.rg [2] [] none) .z) .z)) (aS (.rg [7] [] none) (aS (aS (.rg [8] [] none) (.bk (.lp [1, 3, 4, 5, 7, 8] (aS (aS (.rg [48, 49, 50, 51] [] none) (.cd .z .z)) (aS (.bk (aS (aS (.rg [54, 55, 56, 57, 58, 59, 60, 61, 62, 63, 64, 65, 66, 67, 68, 69] [] (some ⟨[(true, 0), (true, 1), (true, 2), (true, 3), (true, 4), (true, 5), (true, 6), (true, 7), (true, 8), (true, 9), (true, 10), (true, 11), (true, 12), (true, 13), (true, 14), (true, 15)], [⟨18014398509481984, 32, 0⟩, ⟨36028797018963968, 256, 0⟩, ⟨72057594037927936, 54043195528445952, 3⟩, ⟨144115188075855872, 72057594037927936, 4⟩, ⟨288230376151711744, 16, 0⟩, ⟨576460752303423488, 432345564227567616, 24⟩, ⟨1152921504606846976, 576460752303423488, 32⟩, ⟨2305843009213693952, 1152921504606847008, 64⟩, ⟨4611686018427387904, 1152921504606847232, 64⟩, ⟨9223372036854775808, 8070450532247928832, 448⟩, ⟨18446744073709551616, 10376293541461622784, 576⟩, ⟨36893488147419103232, 1152921504606846978, 64⟩, ⟨73786976294838206464, 38046409652025950208, 2112⟩, ⟨147573952589676412928, 74939897799445053440, 4160⟩, ⟨295147905179352825856, 167173618167992811520, 9280⟩, ⟨590295810358705651712, 296300826683959672832, 16448⟩]⟩)) (.cd (aS (.rg [2] [] none) .z) .z)) (aS (.rg [9, 10, 70, 71, 72, 73, 74, 75, 76, 77, 78, 79] [] (some ⟨[(true, 0), (true, 2), (true, 3), (true, 4), (true, 5), (false, 1), (false, 6), (true, 7), (true, 8), (true, 9), (true, 10), (true, 11)], [⟨2361183241434822606848, 2, 0⟩, ⟨4722366482869645213696, 2361183241434822606848, 1⟩, ⟨9444732965739290427392, 32, 0⟩, ⟨18889465931478580854784, 256, 0⟩, ⟨37778931862957161709568, 28334198897217871282176, 12⟩, ⟨75557863725914323419136, 37778931862957161709568, 16⟩, ⟨151115727451828646838272, 80280230208783968632832, 34⟩, ⟨1180591620717411303424, 151115727451828646838272, 64⟩, ⟨302231454903657293676544, 1180591620717411303424, 128⟩, ⟨604462909807314587353088, 1180591620717411303424, 128⟩, ⟨512, 302231454903657293676544, 511⟩, ⟨1024, 604462909807314587353088, 2047⟩]⟩)) (aS (aS (.rg [80, 81, 82, 83, 84, 85, 86] [] none) (.cd (aS (.rg [2] [] none) .z) .z)) (aS (.rg [87, 88, 89, 90, 91, 92, 93, 94, 95] [] none) (.rg [7, 96, 97, 98, 99] [] (some ⟨[(true, 0), (true, 1), (true, 2), (true, 3), (true, 4), (true, 5), (true, 6), (true, 7), (true, 8), (true, 9), (true, 10), (true, 11)], [⟨79228162514264337593543950336, 128, 0⟩, ⟨158456325028528675187087900672, 2, 0⟩, ⟨316912650057057350374175801344, 158456325028528675187087900672, 2⟩, ⟨633825300114114700748351602688, 32, 0⟩, ⟨1267650600228229401496703205376, 256, 0⟩, ⟨2535301200456458802993406410752, 1901475900342344102245054808064, 24⟩, ⟨5070602400912917605986812821504, 2535301200456458802993406410752, 32⟩, ⟨10141204801825835211973625643008, 5387515050969974956360988622848, 68⟩, ⟨20282409603651670423947251286016, 10141204801825835211973625643008, 128⟩, ⟨40564819207303340847894502572032, 20282409603651670423947251286016, 256⟩, ⟨81129638414606681695789005144064, 40644047369817605185488046522368, 513⟩, ⟨128, 81129638414606681695789005144064, 2047⟩]⟩))))))) (.rg [8, 52, 53] [] none)))))) (ai (.cd (aS (.rg [2] [] none) .z) .z))))))) (.rg [4, 37, 38] [] none)))))) (aS (aS (.rg [11] [] none) (.bk (.lp [3, 11] (aS (ai (.cd .z .z)) (aS (.bk (ai (.cd (aS (.rg [2] [] none) .z) .z))) (.rg [11] [] none)))))) (aS (.rg [2] [] none) .z)))))
def SK : An := ai (ai .z)
def SL : An := aS (.rg [1, 2] [] none) (aS (.rg [3, 4, 5, 6] [] none) .z)
section
variable (a0 a1 a2 a3 a4 a5 a6 : AV) (R : cm -> St -> Prop) (U : St)
def MZ : Prop :=
 (eB a0).wp K U (fun v1 U =>
 (ao (some (true, 3)) v1 U).wp K U (fun v3 U =>
 (aD (some (9, 1)) (some [.str []]) 3 false [(0, (.str mZ)), (1, (.str uH)), (2, (.str mY))]).wp K U (fun v4 U =>
 ae K 121 [v3, v4] U (al (fun v5 U =>
 aj R v5 U) (aa R))) (aa R)) (aa R)) (aa R)
def M0 : Prop :=
 (eB a0).wp K U (fun v1 U =>
 (fun az : St =>
 av K (af (some 0) v1) (fun v5 =>
 av K (af (some 0) v5) (fun v6 =>
 av K (ao aE v6 az) (fun v7 =>
 av K (bZ (some false) v7) (fun v8 =>
 av K (aw .eql aO true v8 (.int .i64 0)) (fun v9 =>
 ah K (aF v9 false) (af (some 0) v1) (fun v11 =>
 ah K (aF v9 false) (af (some 0) v11) (fun v12 =>
 ah K (aF v9 false) (ao aE v12 az) (fun cB =>
 ah K (aF v9 false) (aJ (some (43, 6)) none cB (.int .i64 0)) (fun df =>
 ah K (aF v9 false) (af (some 0) df) (fun cM =>
 ah K (aF v9 false) (ao aE cM az) (fun dA =>
 ah K (aF v9 false) (aw .neq aO true dA (.int .u8 1)) (fun dK =>
 av K (bu v9 (.bool true) dK) (fun cz =>
 ah K (aF cz false) (af (some 0) v1) (fun v20 =>
 ah K (aF cz false) (af (some 0) v20) (fun v21 =>
 ah K (aF cz false) (ao aE v21 az) (fun dW =>
 ah K (aF cz false) (aJ (some (43, 6)) none dW (.int .i64 0)) (fun ey =>
 ah K (aF cz false) (af (some 5) ey) (fun v24 =>
 ah K (aF cz false) (ao aE v24 az) (fun fj =>
 ah K (aF cz false) (af (some 0) v1) (fun fV =>
 ah K (aF cz false) (af (some 0) fV) (fun dX =>
 ah K (aF cz false) (ao aE dX az) (fun v28 =>
 ah K (aF cz false) (bZ (some false) v28) (fun dS =>
 ah K (aF cz false) (aw .neq aO false fj dS) (fun v30 =>
 av K (bu cz (.bool true) v30) (fun v31 =>
 ay v31 (
 aj R (.bool false) U) (
 ae K 130 [] U (al (fun jP U =>
 (af (some 0) v1).wp K U (fun fD U =>
 (af (some 0) fD).wp K U (fun gY U =>
 (ao aE gY U).wp K U (fun gZ U =>
 (bZ (some false) gZ).wp K U (fun gH U =>
 dQ 4 [v1, jP, gH, (.int .i64 0)] U fun lp gO v3 nj v37 U =>
 (aw .lss aO false v37 nj).wp K U (fun iU U =>
 ay iU (
 (ao (some (true, 1)) gO U).wp K U (fun v40 U =>
 ae K 131 [v40, v37, v3] U (al (fun iu U =>
 (gL .not iu).wp K U (fun o5 U =>
 ay o5 (
 aj R (.bool false) U) (
 (aw .add aO true v37 (.int .i64 1)).wp K U (fun qU U =>
 lp gO v3 nj qU U) (aa R))) (aa R)) (aa R))) (aa R)) (
 aj R (.bool true) U)) (aa R)) (aa R)) (aa R)) (aa R)) (aa R)) (aa R))))))))))))))))))))))))))))) U) (aa R)
def M4 : Prop :=
 (eB a0).wp K U (fun v1 U =>
 (af (some 0) v1).wp K U (fun v7 U =>
 (ao aE v7 U).wp K U (fun v8 U =>
 (bZ (some false) v8).wp K U (fun v9 U =>
 dQ 6 [v1, (.bool false), .aq, v8, v9, (.int .i64 0)] U fun lp gO v2 v3 o6 mH v10 U =>
 (aw .lss aO false v10 mH).wp K U (fun v11 U =>
 ay v11 (
 (aJ (some (43, 6)) none o6 v10).wp K U (fun cB U =>
 (ao (some (true, 6)) cB U).wp K U (fun df U =>
 (aA.cN [.int .i64 0]).wp K U (fun v4 U =>
 (aA.cN [.int .u8 0, .str [], .int .i64 0, .int .i64 0, .int .i64 0, .int .i64 0]).wp K U (fun v5 U =>
 (aM aE v4 v10 U).wp K U (fun _ U =>
 (aM (some (true, 6)) v5 df U).wp K U (fun _ U =>
 ae K 132 [v3, (.func (.func 133) [] [v4])] U (al (fun dK U =>
 (bZ (some false) dK).wp K U (fun dE U =>
 (aw .gtr aO true dE (.int .i64 60)).wp K U (fun v20 U =>
 ay v20 (
 aj R (.bool true) U) (
 (ao aE v4 U).wp K U (fun dW U =>
 (af (some 5) v5).wp K U (fun ey U =>
 (ao aE ey U).wp K U (fun v24 U =>
 (aw .add aO false dW v24).wp K U (fun fj U =>
 (aD (some (3, 1)) (some [.int .i64 0]) 1 true [(0, fj)]).wp K U (fun fV U =>
 (eN (some (3, 1)) true dK fV U).wp K U (fun dX U =>
 (aw .add aO true v10 (.int .i64 1)).wp K U (fun v28 U =>
 lp gO v2 dX o6 mH v28 U) (aa R)) (aa R)) (aa R)) (aa R)) (aa R)) (aa R)) (aa R))) (aa R)) (aa R)) (aa R))) (aa R)) (aa R)) (aa R)) (aa R)) (aa R)) (aa R)) (
 (aA.cN [.int .i64 0]).wp K U (fun v6 U =>
 (aM aE v6 (.int .i64 0) U).wp K U (fun _ U =>
 (ao (some (true, 1)) gO U).wp K U (fun dS U =>
 (dO (some [(0, 1)]) (some [.aq]) none [(0, dS)]).wp K U (fun v30 U =>
 ae K 81 [v30, (.int .i64 0)] U (al (fun v31 U =>
 oZ K 1 v31 U (fun jP q U =>
 q.Bw (fun U =>
 (ao aE v6 U).wp K U (fun fD U =>
 (aw .add aO true fD (.int .i64 1)).wp K U (fun gY U =>
 (aM aE v6 gY U).wp K U (fun _ U =>
 q.n U) (fun _ _ => False)) (fun _ _ => False)) (fun _ _ => False)) U) (fun U =>
 (ao aE v6 U).wp K U (fun gZ U =>
 (aw .gtr aO true gZ (.int .i64 24)).wp K U (fun gH U =>
 aj R gH U) (aa R)) (aa R)) (fun i U =>
 Dc (Nat.beq i 2) (
 (ao aE v6 U).wp K U (fun xv U =>
 (aw .gtr aO true xv (.int .i64 24)).wp K U (fun nj U =>
 aj R nj U) (aa R)) (aa R)) (
 False)) (fun U =>
 aj R v2 U) (fun x U => (aa R) x U)) (aa R))) (aa R)) (aa R)) (aa R)) (aa R))) (aa R)) (aa R)) (aa R)) (aa R)) (aa R)
def M5 : Prop :=
 (bZ (some true) a0).wp K U (fun v6 U =>
 (aw .gtr aO true v6 (.int .i64 2500)).wp K U (fun v7 U =>
 ay v7 (
 aj R (.aL [(.int .i64 0), (.int .i64 5)]) U) (
 (bZ (some true) a0).wp K U (fun v9 U =>
 dQ 3 [a0, v9, (.int .i64 0)] U fun lp v0 mH v10 U =>
 (aw .lss aO false v10 mH).wp K U (fun v11 U =>
 ay v11 (
 (ff true none none v0 v10).wp K U (fun cM U =>
 ae K 146 [cM] U (al (fun dA U =>
 (gL .not dA).wp K U (fun dK U =>
 ay dK (
 aj R (.aL [v10, (.int .i64 2)]) U) (
 (aw .add aO true v10 (.int .i64 1)).wp K U (fun dE U =>
 lp v0 mH dE U) (aa R))) (aa R)) (aa R))) (aa R)) (
 aj R (.aL [(.int .i64 0), (.int .i64 0)]) U)) (aa R)) (aa R))) (aa R)) (aa R)
def M6 (a0 a1 : AV) (R : cm -> St -> Prop) (U : St) : Prop :=
 (ao aE a1 U).wp K U (fun v4 U =>
 (ao aE a1 U).wp K U (fun v5 U =>
 (bZ (some false) v5).wp K U (fun v6 U =>
 (aw .sub aO true v6 (.int .i64 1)).wp K U (fun v7 U =>
 (aJ (some (51, 3)) none v4 v7).wp K U (fun v8 U =>
 (af (some 1) v8).wp K U (fun v9 U =>
 (ao aE v9 U).wp K U (fun v10 U =>
 (bZ (some true) v10).wp K U (fun v11 U =>
 aj R v11 U) (aa R)) (aa R)) (aa R)) (aa R)) (aa R)) (aa R)) (aa R)) (aa R)
def M7 : Prop :=
 (eB a0).wp K U (fun v2 U =>
 (eB a1).wp K U (fun v3 U =>
 aj R (.func (.func 147) [] [v2, v3]) U) (aa R)) (aa R)
def M8 : Prop :=
 (aA.cN [.int .u8 0, .str [], .int .i64 0]).wp K U (fun v2 U =>
 ae K 149 [a0] U (al (fun v7 U =>
 (fi true none a0 none (some v7)).wp K U (fun v8 U =>
 (aw .eql aO true v8 (.str w_)).wp K U (fun v11 U =>
 ay v11 (
 ae K 150 [a0] U (al (fun cB U =>
 (aV cB 0).wp K U (fun df U =>
 (aV cB 1).wp K U (fun cM U =>
 (aM (some (true, 3)) v2 df U).wp K U (fun _ U =>
 bI (some (true, 3)) v2 U fun r0 =>
 aj R (.aL [r0, cM]) U) (aa R)) (aa R)) (aa R)) (aa R))) (
 (ff true none none v8 (.int .i64 0)).wp K U (fun cz U =>
 (aD (some (178, 1)) (some [.int .i64 0]) 1 false [(0, (.int .i64 2))]).wp K U (fun dE U =>
 ae K 151 [cz, dE] U (al (fun v20 U =>
 ay v20 (
 (dO (some [(0, 1), (1, 1), (2, 1)]) (some [.int .u8 0, .str [], .int .i64 0]) none [(0, (.int .u8 2)), (1, v8)]).wp K U (fun dW U =>
 ae K 152 [v8] U (al (fun v24 U =>
 (aM (some (true, 3)) v2 dW U).wp K U (fun _ U =>
 bI (some (true, 3)) v2 U fun rY =>
 aj R (.aL [rY, v24]) U) (aa R)) (aa R))) (aa R)) (
 (ff true none none v8 (.int .i64 0)).wp K U (fun dX U =>
 (aD (some (178, 1)) (some [.int .i64 0]) 1 false [(0, (.int .i64 3))]).wp K U (fun v28 U =>
 ae K 151 [dX, v28] U (al (fun dS U =>
 (gL .not dS).wp K U (fun v30 U =>
 ay v30 (
 (dO (some [(0, 1), (1, 1), (2, 1)]) (some [.int .u8 0, .str [], .int .i64 0]) none []).wp K U (fun v31 U =>
 (aM (some (true, 3)) v2 v31 U).wp K U (fun _ U =>
 bI (some (true, 3)) v2 U fun vO =>
 aj R (.aL [vO, (.int .i64 4)]) U) (aa R)) (aa R)) (
 ae K 153 [] U (al (fun fD U =>
 (ez (some (.s, 4)) (some (.bool false)) fD v8 false U).wp K U (fun gZ U =>
 ay gZ (
 (dO (some [(0, 1), (1, 1), (2, 1)]) (some [.int .u8 0, .str [], .int .i64 0]) none [(0, (.int .u8 3)), (1, v8)]).wp K U (fun v37 U =>
 (aM (some (true, 3)) v2 v37 U).wp K U (fun _ U =>
 bI (some (true, 3)) v2 U fun BN =>
 aj R (.aL [BN, (.int .i64 0)]) U) (aa R)) (aa R)) (
 (bZ (some true) v8).wp K U (fun v40 U =>
 (aw .gtr aO true v40 (.int .i64 12)).wp K U (fun lZ U =>
 ay lZ (
 (dO (some [(0, 1), (1, 1), (2, 1)]) (some [.int .u8 0, .str [], .int .i64 0]) none []).wp K U (fun nS U =>
 (aM (some (true, 3)) v2 nS U).wp K U (fun _ U =>
 bI (some (true, 3)) v2 U fun K8 =>
 aj R (.aL [K8, (.int .i64 4)]) U) (aa R)) (aa R)) (
 (dO (some [(0, 1), (1, 1), (2, 1)]) (some [.int .u8 0, .str [], .int .i64 0]) none [(0, (.int .u8 1)), (1, v8)]).wp K U (fun o5 U =>
 (aM (some (true, 3)) v2 o5 U).wp K U (fun _ U =>
 bI (some (true, 3)) v2 U fun K9 =>
 aj R (.aL [K9, (.int .i64 0)]) U) (aa R)) (aa R))) (aa R)) (aa R))) (aa R)) (aa R)))) (aa R)) (aa R))) (aa R)) (aa R))) (aa R))) (aa R)) (aa R))) (aa R)) (aa R)) (aa R))) (aa R)
def M9 : Prop :=
 (eB a0).wp K U (fun v3 U =>
 (ao (some (true, 1)) v3 U).wp K U (fun v9 U =>
 ae K 30 [v9] U (al (fun v10 U =>
 (aw .neq aO true v10 (.int .i64 0)).wp K U (fun cB U =>
 ay cB (
 aj R (.aL [.aq, v10]) U) (
 (af (some 0) v3).wp K U (fun dK U =>
 (ao aE dK U).wp K U (fun cz U =>
 (bZ (some false) cz).wp K U (fun dE U =>
 (aw .sub aO true dE (.int .i64 1)).wp K U (fun v20 U =>
 ae K 122 [(.int .i64 0), v20, a1] U (al (fun dW U =>
 (gL .not dW).wp K U (fun ey U =>
 ay ey (
 aj R (.aL [.aq, (.int .i64 3)]) U) (
 (ao (some (true, 1)) v3 U).wp K U (fun dX U =>
 (dO (some [(0, 1)]) (some [.aq]) none [(0, dX)]).wp K U (fun v28 U =>
 (eT K.P a2 [v28]).wp K U (fun dS U =>
 (aV dS 0).wp K U (fun v30 U =>
 (aV dS 1).wp K U (fun v31 U =>
 (aw .neq aO true v31 (.int .i64 0)).wp K U (fun fD U =>
 ay fD (
 aj R (.aL [.aq, v31]) U) (
 aj R (.aL [v30, (.int .i64 0)]) U)) (aa R)) (aa R)) (aa R)) (aa R)) (aa R)) (aa R))) (aa R)) (aa R))) (aa R)) (aa R)) (aa R)) (aa R))) (aa R)) (aa R))) (aa R)) (aa R)
def Na : Prop :=
 (eB a0).wp K U (fun v2 U =>
 (ao (some (true, 1)) v2 U).wp K U (fun v5 U =>
 (ao aE a1 U).wp K U (fun v6 U =>
 ae K 81 [v5, v6] U (al (fun v7 U =>
 ae K 80 [v7] U (al (fun v8 U =>
 aj R (.aL [v8, (.int .i64 0)]) U) (aa R))) (aa R))) (aa R)) (aa R)) (aa R)
def Nb : Prop :=
 ae K 154 [.aq, a0] U (al (fun v4 U =>
 aj R v4 U) (aa R))
def Nc : Prop :=
 (eB a0).wp K U (fun v2 U =>
 (eB a1).wp K U (fun v3 U =>
 (fun az : St =>
 av K (ao aE v3 az) (fun v6 =>
 av K (af (some 0) v2) (fun v7 =>
 av K (af (some 0) v7) (fun v8 =>
 av K (ao aE v8 az) (fun v9 =>
 av K (ao aE v3 az) (fun v10 =>
 av K (aJ (some (43, 6)) none v9 v10) (fun v11 =>
 av K (af (some 5) v11) (fun v12 =>
 av K (ao aE v12 az) (fun cB =>
 av K (aw .add aO false v6 cB) (fun df =>
 (aA.cN [.int .i64 0]).wp K U (fun v5 U => cn ((cQ v12 ++ []) ++ ((cQ v3 ++ []) ++ ((cQ v8 ++ []) ++ ((cQ v3 ++ []) ++ [])))) az U /\
 (aM aE v5 df U).wp K U (fun _ U =>
 aj R (.func (.func 155) [] [v3, v5, v2]) U) (aa R)) (aa R))))))))))) U) (aa R)) (aa R)
def Nf : Prop :=
 (eB a0).wp K U (fun v3 U =>
 (ao (some (true, 1)) v3 U).wp K U (fun v9 U =>
 ae K 30 [v9] U (al (fun v10 U =>
 (aw .neq aO true v10 (.int .i64 0)).wp K U (fun cB U =>
 ay cB (
 aj R (.aL [(.int .i64 0), v10]) U) (
 (af (some 0) v3).wp K U (fun dK U =>
 (ao aE dK U).wp K U (fun cz U =>
 (bZ (some false) cz).wp K U (fun dE U =>
 (aw .sub aO true dE (.int .i64 1)).wp K U (fun v20 U =>
 ae K 122 [(.int .i64 0), v20, a1] U (al (fun dW U =>
 (gL .not dW).wp K U (fun ey U =>
 ay ey (
 aj R (.aL [(.int .i64 0), (.int .i64 3)]) U) (
 (ao (some (true, 1)) v3 U).wp K U (fun dX U =>
 (dO (some [(0, 1)]) (some [.aq]) none [(0, dX)]).wp K U (fun v28 U =>
 (eT K.P a2 [v28]).wp K U (fun dS U =>
 (aV dS 0).wp K U (fun v30 U =>
 (aV dS 1).wp K U (fun v31 U =>
 (aw .neq aO true v31 (.int .i64 0)).wp K U (fun fD U =>
 ay fD (
 aj R (.aL [(.int .i64 0), v31]) U) (
 aj R (.aL [v30, (.int .i64 0)]) U)) (aa R)) (aa R)) (aa R)) (aa R)) (aa R)) (aa R))) (aa R)) (aa R))) (aa R)) (aa R)) (aa R)) (aa R))) (aa R)) (aa R))) (aa R)) (aa R)
def Ng : Prop :=
 (eB a0).wp K U (fun v2 U =>
 (ao aE a1 U).wp K U (fun v5 U =>
 (aw .eql aO true v5 (.int .i64 0)).wp K U (fun v6 U =>
 ay v6 (
 aj R (.aL [(.int .i64 0), (.int .i64 7)]) U) (
 (ao (some (true, 1)) v2 U).wp K U (fun v7 U =>
 (ao aE a1 U).wp K U (fun v8 U =>
 ae K 85 [v7, v8] U (al (fun v9 U =>
 aj R (.aL [v9, (.int .i64 0)]) U) (aa R))) (aa R)) (aa R))) (aa R)) (aa R)) (aa R)
def Nh : Prop :=
 (eB a0).wp K U (fun v2 U =>
 (aw .sub aO true a1 (.int .i64 1)).wp K U (fun v7 U =>
 dQ 3 [a1, v2, v7] U fun lp v1 j9 v5 U =>
 (af (some 0) j9).wp K U (fun v9 U =>
 (af (some 0) v9).wp K U (fun v10 U =>
 (ao aE v10 U).wp K U (fun v11 U =>
 (aJ (some (43, 6)) none v11 v5).wp K U (fun cB U =>
 (af (some 5) cB).wp K U (fun df U =>
 (ao aE df U).wp K U (fun cM U =>
 (aw .add aO false v5 cM).wp K U (fun dA U =>
 (aw .leq aO false dA v1).wp K U (fun cz U =>
 ay cz (
 (aw .sub aO true v5 (.int .i64 1)).wp K U (fun v20 U =>
 lp v1 j9 v20 U) (aa R)) (
 aj R v5 U)) (aa R)) (aa R)) (aa R)) (aa R)) (aa R)) (aa R)) (aa R)) (aa R)) (aa R)) (aa R)
def TY : Prop :=
 ae K 164 [a0] U (al (fun v7 U =>
 (dO (some [(0, 1), (1, 1), (2, 1), (3, 1), (4, 1), (5, 1)]) (some [.int .u8 0, .str [], .int .i64 0, .int .i64 0, .int .i64 0, .int .i64 0]) none [(0, a1), (4, v7)]).wp K U (fun v8 U =>
 (dO (some [(0, 6), (6, 1)]) (some [.int .u8 0, .str [], .int .i64 0, .int .i64 0, .int .i64 0, .int .i64 0, .aq]) none [(0, v8)]).wp K U (fun v9 U =>
 (eB v9).wp K U (fun v10 U =>
 aj R v10 U) (aa R)) (aa R)) (aa R)) (aa R))
def HJ : Prop :=
 (aD (some (9, 1)) (some [.str []]) 1 false [(0, a1)]).wp K U (fun v7 U =>
 ae K 105 [a0, v7] U (al (fun v8 U =>
 (gL .not v8).wp K U (fun v9 U =>
 ay v9 (
 aj R (.bool false) U) (
 (a8 a0).wp K U (fun v11 U =>
 (af (some 1) v11).wp K U (fun v12 U =>
 (ao aE v12 U).wp K U (fun cB U =>
 (aw .add aO true cB (.int .i64 1)).wp K U (fun df U =>
 (a8 a0).wp K U (fun cM U =>
 (af (some 1) cM).wp K U (fun dA U =>
 (aM aE dA df U).wp K U (fun _ U =>
 aj R (.bool true) U) (aa R)) (aa R)) (aa R)) (aa R)) (aa R)) (aa R)) (aa R))) (aa R)) (aa R))) (aa R)
def Rz : Prop :=
 ae K 165 [a0, (.int .u8 1)] U (al (fun v4 U =>
 aj R v4 U) (aa R))
def RA : Prop :=
 ae K 100 [a0, a1] U (al (fun v6 U =>
 (gL .not v6).wp K U (fun v7 U =>
 ay v7 (
 ae K 166 [a0] U (al (fun v9 U =>
 aj R (.aL []) U) (aa R))) (
 aj R (.aL []) U)) (aa R)) (aa R))
def HN : Prop :=
 (a8 a0).wp K U (fun v7 U =>
 (af (some 6) v7).wp K U (fun v8 U =>
 (ao aE v8 U).wp K U (fun v9 U =>
 (eN (some (87, 1)) false v9 a1 U).wp K U (fun v11 U =>
 (a8 a0).wp K U (fun v12 U =>
 (af (some 6) v12).wp K U (fun cB U =>
 (aM aE cB v11 U).wp K U (fun _ U =>
 aj R a0 U) (aa R)) (aa R)) (aa R)) (aa R)) (aa R)) (aa R)) (aa R)
def RB : Prop :=
 ae K 167 [a0, (.int .i64 0)] U (al (fun v6 U =>
 ae K 121 [v6, a1] U (al (fun v8 U =>
 aj R v8 U) (aa R))) (aa R))
def BV : Prop :=
 (eT K.P a2 []).wp K U (fun v8 U =>
 (aD (some (87, 1)) (some [.aR]) 1 false [(0, v8)]).wp K U (fun v9 U =>
 ae K 103 [a1, v9] U (al (fun v10 U =>
 dQ 3 [a0, a1, a2] U fun lp v0 v1 v2 U =>
 ae K 100 [v0, (.str xA)] U (al (fun v12 U =>
 ay v12 (
 (eT K.P v2 []).wp K U (fun cM U =>
 (aD (some (87, 1)) (some [.aR]) 1 false [(0, cM)]).wp K U (fun dA U =>
 ae K 103 [v1, dA] U (al (fun dK U =>
 lp v0 v1 v2 U) (aa R))) (aa R)) (aa R)) (
 aj R (.aL []) U)) (aa R))) (aa R))) (aa R)) (aa R)
def HQ : Prop :=
 ae K 169 [a0] U (al (fun v7 U =>
 ae K 99 [a0, (.int .u8 9)] U (al (fun v9 U =>
 (aD (some (87, 1)) (some [.aR]) 1 false [(0, v7)]).wp K U (fun v12 U =>
 ae K 103 [v9, v12] U (al (fun cB U =>
 ko 2 (fun v3 v4 U =>
 (a8 v4).wp K U (fun gY U =>
 (af (some 6) gY).wp K U (fun gZ U =>
 (ao aE gZ U).wp K U (fun gH U =>
 (bZ (some false) gH).wp K U (fun v37 U =>
 (aw .eql aO true v37 (.int .i64 1)).wp K U (fun iU U =>
 ay iU (
 aj R v3 U) (
 aj R v4 U)) (aa R)) (aa R)) (aa R)) (aa R)) (aa R)) fun j =>
 dQ 3 [a0, v7, v9] U fun lp v0 qj iV U =>
 (aD (some (9, 1)) (some [.str []]) 1 false [(0, (.str sh))]).wp K U (fun cM U =>
 ae K 105 [v0, cM] U (al (fun dA U =>
 ay dA (
 ae K 167 [v0, (.int .i64 1)] U (al (fun cz U =>
 (aA.cN [.int .u8 0, .str [], .int .i64 0]).wp K U (fun v5 U =>
 (aM (some (true, 3)) v5 cz U).wp K U (fun _ U =>
 (af (some 0) v5).wp K U (fun dE U =>
 (ao aE dE U).wp K U (fun v20 U =>
 (aw .eql aO true v20 (.int .u8 0)).wp K U (fun v21 U =>
 ah K (aF v21 false) (ao (some (true, 3)) v5 U) (fun ey =>
 ah K (aF v21 false) (aA.enter 61 [ey]) (fun v24 =>
 (bu v21 (.bool true) v24).wp K U (fun fj U =>
 ay fj (
 j qj iV U) (
 ae K 102 [v0, (.str sh)] U (al (fun dX U =>
 ae K 169 [v0] U (al (fun v30 U =>
 (aD (some (87, 1)) (some [.aR]) 1 false [(0, v30)]).wp K U (fun v31 U =>
 ae K 103 [iV, v31] U (al (fun jP U =>
 lp v0 qj iV U) (aa R))) (aa R)) (aa R))) (aa R)))) (aa R)))) (aa R)) (aa R)) (aa R)) (aa R)) (aa R)) (aa R))) (
 j qj iV U)) (aa R))) (aa R)) (aa R))) (aa R)) (aa R))) (aa R))
def HS : Prop :=
 (eB a0).wp K U (fun v2 U =>
 (af (some 0) v2).wp K U (fun v5 U =>
 (ao aE v5 U).wp K U (fun v6 U =>
 (aw .eql aO true v6 (.int .u8 3)).wp K U (fun v7 U =>
 ah K (aF v7 false) (af (some 0) v2) (fun v9 =>
 ah K (aF v7 false) (ao aE v9 U) (fun v10 =>
 ah K (aF v7 false) (aw .eql aO true v10 (.int .u8 4)) (fun v11 =>
 (bu v7 (.bool true) v11).wp K U (fun v12 U =>
 ah K (aF v12 true) (aA.val a1) (fun df =>
 ah K (aF v12 true) (af (some 1) v2) (fun cM =>
 ah K (aF v12 true) (ao aE cM U) (fun dA =>
 ah K (aF v12 true) (aA.enter 178 [df, dA]) (fun dK =>
 (bu v12 dK (.bool false)).wp K U (fun cz U =>
 aj R cz U) (aa R)))))) (aa R))))) (aa R)) (aa R)) (aa R)) (aa R)
def HU : Prop :=
 (aw .geq aO false a2 a0).wp K U (fun v9 U =>
 ah K (aF v9 true) (aA.val a2) (fun v11 =>
 ah K (aF v9 true) (aA.val a1) (fun v12 =>
 ah K (aF v9 true) (aw .leq aO false v11 v12) (fun cB =>
 (bu v9 cB (.bool false)).wp K U (fun df U =>
 aj R df U) (aa R))))) (aa R)
def HW : Prop :=
 (eB a0).wp K U (fun v3 U =>
 (eB a1).wp K U (fun v4 U =>
 (aA.cN [.bool false]).wp K U (fun v6 U =>
 (af (some 0) v3).wp K U (fun cB U =>
 (af (some 0) cB).wp K U (fun df U =>
 (ao aE df U).wp K U (fun cM U =>
 (ao aE v4 U).wp K U (fun dA U =>
 (aJ (some (43, 6)) none cM dA).wp K U (fun dK U =>
 (ao (some (true, 6)) dK U).wp K U (fun cz U =>
 (aA.cN [.int .u8 0, .str [], .int .i64 0, .int .i64 0, .int .i64 0, .int .i64 0]).wp K U (fun v7 U =>
 (aM (some (true, 6)) v7 cz U).wp K U (fun _ U =>
 (af (some 0) v7).wp K U (fun v21 U =>
 (ao aE v21 U).wp K U (fun dW U =>
 (ez (some (.i, 204)) (some (.agg [.bool false, .bool false, .bool false, .aq])) a2 dW true U).wp K U (fun ey U =>
 (aV ey 0).wp K U (fun v24 U =>
 (aV ey 1).wp K U (fun fj U =>
 (aA.cN [.bool false, .bool false, .bool false, .aq]).wp K U (fun v8 U =>
 (aM (some (true, 4)) v8 v24 U).wp K U (fun _ U =>
 (gL .not fj).wp K U (fun dX U =>
 ah K (aF dX false) (af (some 0) v3) (fun dS =>
 ah K (aF dX false) (af (some 0) dS) (fun v30 =>
 ah K (aF dX false) (ao aE v30 U) (fun v31 =>
 ah K (aF dX false) (bZ (some false) v31) (fun jP =>
 ah K (aF dX false) (ao aE v4 U) (fun fD =>
 ah K (aF dX false) (aw .sub aO false jP fD) (fun gY =>
 ah K (aF dX false) (af (some 5) v7) (fun gZ =>
 ah K (aF dX false) (ao aE gZ U) (fun gH =>
 ah K (aF dX false) (aA.enter 122 [(.int .i64 1), gY, gH]) (fun v37 =>
 ah K (aF dX false) (gL .not v37) (fun iU =>
 (bu dX (.bool true) iU).wp K U (fun o4 U =>
 ah K (aF o4 false) (af (some 0) v8) (fun lZ =>
 ah K (aF o4 false) (ao aE lZ U) (fun nS =>
 ah K (aF o4 false) (af (some 1) v7) (fun iu =>
 ah K (aF o4 false) (ao aE iu U) (fun o5 =>
 ah K (aF o4 false) (aw .neq aO true o5 (.str w_)) (fun qU =>
 ah K (aF o4 false) (aw .neq (BT.mk true false false none false) false nS qU) (fun v46 =>
 (bu o4 (.bool true) v46).wp K U (fun qV U =>
 ah K (aF qV false) (af (some 0) v8) (fun v49 =>
 ah K (aF qV false) (ao aE v49 U) (fun sJ =>
 ah K (aF qV false) (aA.val sJ) (fun v51 =>
 ah K (aF v51 true) (af (some 1) v7) (fun vg =>
 ah K (aF v51 true) (ao aE vg U) (fun v53 =>
 ah K (aF v51 true) (aA.enter 208 [v53]) (fun xw =>
 ah K (aF v51 true) (gL .not xw) (fun vi =>
 ah K (aF qV false) (bu v51 vi (.bool false)) (fun uc =>
 (bu qV (.bool true) uc).wp K U (fun zz U =>
 ay zz (
 (aM aE v6 (.bool false) U).wp K U (fun _ U =>
 bI aE v6 U fun r0 =>
 aj R r0 U) (aa R)) (
 (af (some 2) v7).wp K U (fun Ca U =>
 (ao aE Ca U).wp K U (fun v59 U =>
 ae K 122 [(.int .i64 0), (.int .i64 1000000), v59] U (al (fun JD U =>
 (gL .not JD).wp K U (fun sK U =>
 ah K (aF sK false) (af (some 3) v7) (fun JF =>
 ah K (aF sK false) (ao aE JF U) (fun qW =>
 ah K (aF sK false) (aA.enter 122 [(.int .i64 0), (.int .i64 1000000), qW]) (fun Cb =>
 ah K (aF sK false) (gL .not Cb) (fun JG =>
 (bu sK (.bool true) JG).wp K U (fun vj U =>
 ah K (aF vj false) (af (some 1) v8) (fun Cc =>
 ah K (aF vj false) (ao aE Cc U) (fun v70 =>
 ah K (aF vj false) (gL .not v70) (fun Sf =>
 ah K (aF vj false) (aA.val Sf) (fun v72 =>
 ah K (aF v72 true) (af (some 2) v7) (fun JH =>
 ah K (aF v72 true) (ao aE JH U) (fun Cd =>
 ah K (aF v72 true) (aw .neq aO true Cd (.int .i64 0)) (fun v75 =>
 ah K (aF vj false) (bu v72 v75 (.bool false)) (fun v76 =>
 (bu vj (.bool true) v76).wp K U (fun ud U =>
 ah K (aF ud false) (af (some 2) v8) (fun Sg =>
 ah K (aF ud false) (ao aE Sg U) (fun v80 =>
 ah K (aF ud false) (gL .not v80) (fun Ce =>
 ah K (aF ud false) (aA.val Ce) (fun Nz =>
 ah K (aF Nz true) (af (some 3) v7) (fun NA =>
 ah K (aF Nz true) (ao aE NA U) (fun Sh =>
 ah K (aF Nz true) (aw .neq aO true Sh (.int .i64 0)) (fun v85 =>
 ah K (aF ud false) (bu Nz v85 (.bool false)) (fun Si =>
 (bu ud (.bool true) Si).wp K U (fun v87 U =>
 ay v87 (
 (aM aE v6 (.bool false) U).wp K U (fun _ U =>
 bI aE v6 U fun rY =>
 aj R rY U) (aa R)) (
 (aA.cN [.aq]).wp K U (fun v10 U =>
 (ao aE v4 U).wp K U (fun Zj U =>
 (aw .add aO true Zj (.int .i64 1)).wp K U (fun Zk U =>
 (aA.cN [.int .i64 0]).wp K U (fun v11 U =>
 (aM aE v11 Zk U).wp K U (fun _ U =>
 (ao (some (true, 1)) v3 U).wp K U (fun Sj U =>
 (ao aE v4 U).wp K U (fun v91 U =>
 ae K 81 [Sj, v91] U (al (fun Sm U =>
 oZ K 1 Sm U (fun v93 q U =>
 q.Bw (fun U =>
 (fun az : St =>
 av K (ao aE v10 az) (fun Sn =>
 av K (af (some 0) v3) (fun So =>
 av K (af (some 0) So) (fun Vz =>
 av K (ao aE Vz az) (fun Sq =>
 av K (aJ (some (43, 6)) none Sq v93) (fun Zm =>
 av K (af (some 0) Zm) (fun R0 =>
 av K (ao aE R0 az) (fun LN =>
 av K (aD (some (5, 1)) (some [.int .u8 0]) 1 false [(0, LN)]) (fun LO =>
 (eN (some (5, 1)) false Sn LO U).wp K U (fun LP U => cn ((cQ R0 ++ []) ++ ((cQ Vz ++ []) ++ ((cQ v10 ++ []) ++ []))) az U /\
 (aM aE v10 LP U).wp K U (fun _ U =>
 (fun hP : St =>
 av K (ao aE v4 hP) (fun LQ =>
 av K (af (some 5) v7) (fun v105 =>
 av K (ao aE v105 hP) (fun LR =>
 av K (aw .add aO false LQ LR) (fun v107 =>
 av K (aw .sub aO false v107 v93) (fun v109 =>
 av K (af (some 0) v3) (fun WS =>
 av K (af (some 0) WS) (fun LS =>
 av K (ao aE LS hP) (fun LU =>
 av K (aJ (some (43, 6)) none LU v93) (fun LV =>
 av K (af (some 5) LV) (fun WU =>
 av K (ao aE WU hP) (fun WV =>
 av K (aA.enter 122 [(.int .i64 1), v109, WV]) (fun v117 =>
 av K (gL .not v117) (fun LW =>
 ay LW (
 (aM aE v6 (.bool false) U).wp K U (fun _ U =>
 q.r U) (fun _ _ => False)) (
 (af (some 0) v3).wp K U (fun vY U =>
 (af (some 0) vY).wp K U (fun WW U =>
 (ao aE WW U).wp K U (fun WX U =>
 (aJ (some (43, 6)) none WX v93).wp K U (fun v124 U =>
 (af (some 5) v124).wp K U (fun B8 U =>
 (ao aE B8 U).wp K U (fun WZ U =>
 (aw .add aO false v93 WZ).wp K U (fun v127 U =>
 (aM aE v11 v127 U).wp K U (fun _ U =>
 q.n U) (fun _ _ => False)) (fun _ _ => False)) (fun _ _ => False)) (fun _ _ => False)) (fun _ _ => False)) (fun _ _ => False)) (fun _ _ => False)) (fun _ _ => False)))))))))))))))) U) (fun _ _ => False)) (fun _ _ => False)))))))))) U) U) (fun U =>
 (ao aE v11 U).wp K U (fun LX U =>
 (ao aE v4 U).wp K U (fun vZ U =>
 (af (some 5) v7).wp K U (fun v130 U =>
 (ao aE v130 U).wp K U (fun v131 U =>
 (aw .add aO false vZ v131).wp K U (fun B9 U =>
 (aw .eql aO false LX B9).wp K U (fun qi U =>
 ah K (aF qi true) (ao aE v10 U) (fun LZ =>
 ah K (aF qi true) (af (some 3) v8) (fun L0 =>
 ah K (aF qi true) (ao aE L0 U) (fun W0 =>
 ay (aF qi true) (
 ae K 209 [LZ, W0] U (al (fun v138 U =>
 (bu qi v138 (.bool false)).wp K U (fun v139 U =>
 (aM aE v6 v139 U).wp K U (fun _ U =>
 bI aE v6 U fun vO =>
 aj R vO U) (aa R)) (aa R)) (aa R))) (
 (bu qi (.aL []) (.bool false)).wp K U (fun Sa U =>
 (aM aE v6 Sa U).wp K U (fun _ U =>
 bI aE v6 U fun BN =>
 aj R BN U) (aa R)) (aa R)))))) (aa R)) (aa R)) (aa R)) (aa R)) (aa R)) (aa R)) (fun i U =>
 Dc (Nat.beq i 0) (
 (ao aE v11 U).wp K U (fun R1 U =>
 (ao aE v4 U).wp K U (fun R2 U =>
 (af (some 5) v7).wp K U (fun R3 U =>
 (ao aE R3 U).wp K U (fun R4 U =>
 (aw .add aO false R2 R4).wp K U (fun R5 U =>
 (aw .eql aO false R1 R5).wp K U (fun qT U =>
 ah K (aF qT true) (ao aE v10 U) (fun R6 =>
 ah K (aF qT true) (af (some 3) v8) (fun R7 =>
 ah K (aF qT true) (ao aE R7 U) (fun R8 =>
 ay (aF qT true) (
 ae K 209 [R6, R8] U (al (fun R9 U =>
 (bu qT R9 (.bool false)).wp K U (fun Sb U =>
 (aM aE v6 Sb U).wp K U (fun _ U =>
 bI aE v6 U fun K8 =>
 aj R K8 U) (aa R)) (aa R)) (aa R))) (
 (bu qT (.aL []) (.bool false)).wp K U (fun Sc U =>
 (aM aE v6 Sc U).wp K U (fun _ U =>
 bI aE v6 U fun K9 =>
 aj R K9 U) (aa R)) (aa R)))))) (aa R)) (aa R)) (aa R)) (aa R)) (aa R)) (aa R)) (
 False)) (fun U =>
 bI aE v6 U fun Wz =>
 aj R Wz U) (fun x U => (aa R) x U)) (aa R))) (aa R)) (aa R)) (aa R)) (aa R)) (aa R)) (aa R)) (aa R))) (aa R)))))))))) (aa R)))))))))) (aa R)))))) (aa R)) (aa R))) (aa R)) (aa R))) (aa R)))))))))) (aa R)))))))) (aa R)))))))))))) (aa R)) (aa R)) (aa R)) (aa R)) (aa R)) (aa R)) (aa R)) (aa R)) (aa R)) (aa R)) (aa R)) (aa R)) (aa R)) (aa R)) (aa R)) (aa R)) (aa R)) (aa R)) (aa R)
def HY : Prop :=
 ae K 210 [a0, a1] U (al (fun v10 U =>
 (aw .eql aO true v10 (.int .i64 (-1))).wp K U (fun v12 U =>
 ay v12 (
 aj R a0 U) (
 (aw .add aO true v10 (.int .i64 1)).wp K U (fun cM U =>
 dQ 4 [a0, a1, v10, cM] U fun lp v0 v1 v5 v6 U =>
 (bZ (some false) v0).wp K U (fun cz U =>
 (aw .lss aO false v6 cz).wp K U (fun dE U =>
 ay dE (
 ko 4 (fun qh gO L5 qk U =>
 (aw .add aO true qk (.int .i64 1)).wp K U (fun v21 U =>
 lp qh gO L5 v21 U) (aa R)) fun j =>
 (aJ (some (3, 1)) none v0 v6).wp K U (fun v24 U =>
 (ao aE v24 U).wp K U (fun fj U =>
 (eT K.P v1 [fj]).wp K U (fun v28 U =>
 (gL .not v28).wp K U (fun dS U =>
 ay dS (
 (aJ (some (3, 1)) none v0 v5).wp K U (fun fD U =>
 (aM aE fD fj U).wp K U (fun _ U =>
 (aw .add aO true v5 (.int .i64 1)).wp K U (fun gZ U =>
 j v0 v1 gZ v6 U) (aa R)) (aa R)) (aa R)) (
 j v0 v1 v5 v6 U)) (aa R)) (aa R)) (aa R)) (aa R)) (
 (fi false (some (3, 1)) v0 (some v5) none).wp K U (fun iU U =>
 (wm (some (3, 1)) (some [.int .i64 0]) iU U).wp K U (fun _ U =>
 (fi false (some (3, 1)) v0 none (some v5)).wp K U (fun lZ U =>
 aj R lZ U) (aa R)) (aa R)) (aa R))) (aa R)) (aa R)) (aa R))) (aa R)) (aa R))
def H0 : Prop :=
 (ao aE a1 U).wp K U (fun v5 U =>
 (aw .leq aO false a0 v5).wp K U (fun v6 U =>
 aj R v6 U) (aa R)) (aa R)
def H3 : Prop :=
 (aD (some (178, 1)) (some [.int .i64 0]) 1 false [(0, (.int .i64 0))]).wp K U (fun v4 U =>
 ae K 151 [a0, v4] U (al (fun v5 U =>
 (gL .not v5).wp K U (fun v6 U =>
 aj R v6 U) (aa R)) (aa R))) (aa R)
def H5 : Prop :=
 dQ 4 [a0, a1, a2, (.int .i64 0)] U fun lp v0 v1 v2 v4 U =>
 (ao aE v1 U).wp K U (fun v9 U =>
 (bZ (some true) v9).wp K U (fun v10 U =>
 (aw .lss aO false v4 v10).wp K U (fun v11 U =>
 ay v11 (
 (ao aE v1 U).wp K U (fun v12 U =>
 (ff true none none v12 v4).wp K U (fun df U =>
 ko 6 (fun qh gO j9 iV TZ v24 U =>
 ay v24 (
 (aw .add aO true iV (.int .i64 1)).wp K U (fun v28 U =>
 lp qh gO j9 v28 U) (aa R)) (
 (aw .eql aO true TZ (.int .u8 126)).wp K U (fun v30 U =>
 ay v30 (
 (ao aE gO U).wp K U (fun jP U =>
 (fi true none jP (some iV) none).wp K U (fun gY U =>
 ae K 148 [gY, (.str xx)] U (al (fun gZ U =>
 (aV gZ 0).wp K U (fun gH U =>
 (aV gZ 1).wp K U (fun v37 U =>
 (aV gZ 2).wp K U (fun iU U =>
 (eT K.P qh [iV, gH]).wp K U (fun nS U =>
 (gL .not nS).wp K U (fun iu U =>
 ay iu (
 aj R (.aL []) U) (
 (bZ (some true) gH).wp K U (fun v46 U =>
 (aw .add aO false iV v46).wp K U (fun qV U =>
 lp qh gO j9 qV U) (aa R)) (aa R))) (aa R)) (aa R)) (aa R)) (aa R)) (aa R)) (aa R))) (aa R)) (aa R)) (
 (eT K.P qh [iV, (.str w_)]).wp K U (fun dK U =>
 (gL .not dK).wp K U (fun cz U =>
 ay cz (
 aj R (.aL []) U) (
 (ao aE j9 U).wp K U (fun v20 U =>
 (eT K.P v20 [iV]).wp K U (fun dW U =>
 (aw .add aO false iV dW).wp K U (fun ey U =>
 lp qh gO j9 ey U) (aa R)) (aa R)) (aa R))) (aa R)) (aa R))) (aa R))) fun j =>
 (aw .eql aO true df (.int .u8 32)).wp K U (fun fj U =>
 ay fj (
 j v0 v1 v2 v4 df fj U) (
 (aw .eql aO true df (.int .u8 10)).wp K U (fun fV U =>
 j v0 v1 v2 v4 df fV U) (aa R))) (aa R)) (aa R)) (aa R)) (
 aj R (.aL []) U)) (aa R)) (aa R)) (aa R)
def RC : Prop :=
 ae K 212 [a0, a1] U (al (fun v9 U =>
 (aV v9 0).wp K U (fun v10 U =>
 (aV v9 1).wp K U (fun v11 U =>
 (aV v9 2).wp K U (fun v12 U =>
 aj R (.aL [v10, v11, v12]) U) (aa R)) (aa R)) (aa R)) (aa R))
def Ib : Prop :=
 dQ 2 [a0, (.int .i64 0)] U fun lp v0 v2 U =>
 (bZ (some true) v0).wp K U (fun v5 U =>
 (aw .lss aO false v2 v5).wp K U (fun v6 U =>
 ah K (aF v6 true) (aA.val v0) (fun v8 =>
 ah K (aF v6 true) (aA.val v2) (fun v9 =>
 ah K (aF v6 true) (ff true none none v8 v9) (fun v10 =>
 ah K (aF v6 true) (aD (some (178, 1)) (some [.int .i64 0]) 3 false [(0, (.int .i64 2)), (1, (.int .i64 3)), (2, (.int .i64 4))]) (fun v11 =>
 ah K (aF v6 true) (aA.enter 151 [v10, v11]) (fun v12 =>
 (bu v6 v12 (.bool false)).wp K U (fun cB U =>
 ay cB (
 (aw .add aO true v2 (.int .i64 1)).wp K U (fun cM U =>
 lp v0 cM U) (aa R)) (
 aj R v2 U)) (aa R))))))) (aa R)) (aa R)
def Ie : Prop :=
 (aA.cN [.int .u8 0, .str [], .int .i64 0]).wp K U (fun v2 U =>
 (dO none (some [.str [], .str []]) (some (2, 9, 1)) [(0, (.str cw)), (1, (.str ij))]).wp K U (fun v6 U =>
 dQ 4 [a0, v2, v6, (.int .i64 0)] U fun lp v0 j9 qk v7 U =>
 (aw .lss aO true v7 (.int .i64 2)).wp K U (fun v8 U =>
 ay v8 (
 (ff false (some (2, 9, 1)) aE qk v7).wp K U (fun v9 U =>
 ae K 213 [v0, v9] U (al (fun v12 U =>
 ay v12 (
 (dO (some [(0, 1), (1, 1), (2, 1)]) (some [.int .u8 0, .str [], .int .i64 0]) none [(0, (.int .u8 4)), (1, v9)]).wp K U (fun df U =>
 (aM (some (true, 3)) j9 df U).wp K U (fun _ U =>
 bI (some (true, 3)) j9 U fun r0 =>
 aj R (.aL [r0, (.int .i64 0)]) U) (aa R)) (aa R)) (
 (aw .add aO true v7 (.int .i64 1)).wp K U (fun cM U =>
 lp v0 j9 qk cM U) (aa R))) (aa R))) (aa R)) (
 (aw .eql aO true v0 (.str w_)).wp K U (fun dK U =>
 ah K (aF dK false) (aA.val v0) (fun dE =>
 ah K (aF dK false) (ff true none none dE (.int .i64 0)) (fun v20 =>
 ah K (aF dK false) (aA.enter 214 [(.str cE), v20]) (fun v21 =>
 ah K (aF dK false) (aw .lss aO true v21 (.int .i64 0)) (fun dW =>
 (bu dK (.bool true) dW).wp K U (fun ey U =>
 ay ey (
 (dO (some [(0, 1), (1, 1), (2, 1)]) (some [.int .u8 0, .str [], .int .i64 0]) none []).wp K U (fun v24 U =>
 (aM (some (true, 3)) j9 v24 U).wp K U (fun _ U =>
 bI (some (true, 3)) j9 U fun rY =>
 aj R (.aL [rY, (.int .i64 4)]) U) (aa R)) (aa R)) (
 (fi true none v0 none (some (.int .i64 1))).wp K U (fun fV U =>
 (dO (some [(0, 1), (1, 1), (2, 1)]) (some [.int .u8 0, .str [], .int .i64 0]) none [(0, (.int .u8 4)), (1, fV)]).wp K U (fun dX U =>
 (aM (some (true, 3)) j9 dX U).wp K U (fun _ U =>
 bI (some (true, 3)) j9 U fun vO =>
 aj R (.aL [vO, (.int .i64 0)]) U) (aa R)) (aa R)) (aa R))) (aa R)))))) (aa R))) (aa R)) (aa R)) (aa R)
def RD : Prop :=
 ae K 216 [a0] U (al (fun v7 U =>
 ae K 215 [a1, v7] U (al (fun v8 U =>
 aj R v8 U) (aa R))) (aa R))
def Ii : Prop :=
 (bZ (some true) a0).wp K U (fun v6 U =>
 dQ 4 [a0, (.int .i64 0), v6, (.int .i64 0)] U fun lp v0 v3 qk v7 U =>
 (aw .lss aO false v7 qk).wp K U (fun v8 U =>
 ay v8 (
 (ff true none none v0 v7).wp K U (fun v12 U =>
 (aD (some (178, 1)) (some [.int .i64 0]) 1 false [(0, (.int .i64 2))]).wp K U (fun cB U =>
 ae K 151 [v12, cB] U (al (fun df U =>
 (gL .not df).wp K U (fun cM U =>
 ay cM (
 aj R (.int .i64 4) U) (
 (aw .mul aO true (.int .i64 10) v3).wp K U (fun dK U =>
 (ff true none none v0 v7).wp K U (fun v20 U =>
 (aw .sub aO true v20 (.int .u8 48)).wp K U (fun v21 U =>
 (zP (some .i64) true false false v21).wp K U (fun dW U =>
 (aw .add aO false dK dW).wp K U (fun ey U =>
 (tA ey (.int .i64 1000001)).wp K U (fun v24 U =>
 (aw .add aO true v7 (.int .i64 1)).wp K U (fun fj U =>
 lp v0 v24 qk fj U) (aa R)) (aa R)) (aa R)) (aa R)) (aa R)) (aa R)) (aa R))) (aa R)) (aa R))) (aa R)) (aa R)) (
 (bZ (some true) v0).wp K U (fun v28 U =>
 (aw .gtr aO true v28 (.int .i64 1)).wp K U (fun dS U =>
 ah K (aF dS true) (aA.val v0) (fun v31 =>
 ah K (aF dS true) (ff true none none v31 (.int .i64 0)) (fun jP =>
 ah K (aF dS true) (aw .eql aO true jP (.int .u8 48)) (fun fD =>
 (bu dS fD (.bool false)).wp K U (fun gY U =>
 ay gY (
 aj R (.int .i64 4) U) (
 (aw .gtr aO true v3 (.int .i64 1000000)).wp K U (fun v37 U =>
 ay v37 (
 aj R (.int .i64 3) U) (
 aj R (.int .i64 0) U)) (aa R))) (aa R))))) (aa R)) (aa R))) (aa R)) (aa R)
def MU : Prop :=
 (eB a0).wp K U (fun v1 U =>
 (af (some 0) v1).wp K U (fun v4 U =>
 (ao aE v4 U).wp K U (fun v5 U =>
 (bZ (some false) v5).wp K U (fun v6 U =>
 (aw .gtr aO true v6 (.int .i64 900)).wp K U (fun v7 U =>
 ay v7 (
 aj R (.int .i64 5) U) (
 (ao (some (true, 1)) v1 U).wp K U (fun v9 U =>
 (dO (some [(0, 1)]) (some [.aq]) none [(0, v9)]).wp K U (fun v10 U =>
 ae K 68 [v10] U (al (fun v11 U =>
 (gL .not v11).wp K U (fun v12 U =>
 ay v12 (
 aj R (.int .i64 4) U) (
 (ao (some (true, 1)) v1 U).wp K U (fun df U =>
 ae K 69 [df] U (al (fun cM U =>
 ay cM (
 aj R (.int .i64 5) U) (
 aj R (.int .i64 0) U)) (aa R))) (aa R))) (aa R)) (aa R))) (aa R)) (aa R))) (aa R)) (aa R)) (aa R)) (aa R)) (aa R)
def MV : Prop :=
 (eB a0).wp K U (fun v1 U =>
 (aA.cN [.aq]).wp K U (fun v2 U =>
 (aA.cN [.int .i64 0]).wp K U (fun v3 U =>
 (aA.cN [.int .i64 0]).wp K U (fun v4 U =>
 (ao aE v1 U).wp K U (fun df U =>
 ae K 74 [df] U (al (fun cM U =>
 (aV cM 0).wp K U (fun dA U =>
 (aV cM 1).wp K U (fun dK U =>
 (aw .neq aO true dK (.int .i64 0)).wp K U (fun dE U =>
 ay dE (
 (aM aE v2 .aq U).wp K U (fun _ U =>
 (aM aE v3 dA U).wp K U (fun _ U =>
 (aM aE v4 dK U).wp K U (fun _ U =>
 bI aE v2 U fun r0 =>
 bI aE v3 U fun r1 =>
 bI aE v4 U fun r2 =>
 aj R (.aL [r0, r1, r2]) U) (aa R)) (aa R)) (aa R)) (
 (aA.cN [.aq]).wp K U (fun v7 U =>
 (ao aE v1 U).wp K U (fun ey U =>
 ae K 76 [ey, (.func (.func 75) [] [v7])] U (al (fun fj U =>
 oZ K 2 fj U (fun fV dX q U =>
 q.Bw (fun U =>
 (aw .neq aO true dX (.str w_)).wp K U (fun dS U =>
 ay dS (
 q.n U) (
 (ao aE v1 U).wp K U (fun v31 U =>
 (fi true none v31 (some fV) none).wp K U (fun fD U =>
 ae K 77 [fD] U (al (fun gY U =>
 (aV gY 0).wp K U (fun gZ U =>
 (aV gY 1).wp K U (fun gH U =>
 (aA.cN [.int .u8 0, .str [], .int .i64 0]).wp K U (fun v11 U =>
 (aM (some (true, 3)) v11 gZ U).wp K U (fun _ U =>
 ko 7 (fun j9 qj iV lJ v9 xr v12 U =>
 (aw .neq aO true v12 (.int .i64 0)).wp K U (fun qU U =>
 ay qU (
 (aM aE j9 .aq U).wp K U (fun _ U =>
 (aM aE qj v9 U).wp K U (fun _ U =>
 (aM aE iV v12 U).wp K U (fun _ U =>
 q.r U) (fun _ _ => False)) (fun _ _ => False)) (fun _ _ => False)) (
 (af (some 2) xr).wp K U (fun v49 U =>
 (aM aE v49 v9 U).wp K U (fun _ U =>
 (ao aE lJ U).wp K U (fun sJ U =>
 (ao (some (true, 3)) xr U).wp K U (fun v51 U =>
 (aD (some (51, 3)) (some [.int .u8 0, .str [], .int .i64 0]) 1 false [(0, v51)]).wp K U (fun vg U =>
 (eN (some (51, 3)) false sJ vg U).wp K U (fun v53 U =>
 (aM aE lJ v53 U).wp K U (fun _ U =>
 q.n U) (fun _ _ => False)) (fun _ _ => False)) (fun _ _ => False)) (fun _ _ => False)) (fun _ _ => False)) (fun _ _ => False)) (fun _ _ => False))) (fun _ _ => False)) fun j =>
 (aw .eql aO true gH (.int .i64 0)).wp K U (fun iU U =>
 ah K (aF iU true) (ao aE v7 U) (fun v40 =>
 ah K (aF iU true) (bZ (some false) v40) (fun lZ =>
 ah K (aF iU true) (aw .eql aO true lZ (.int .i64 900)) (fun nS =>
 (bu iU nS (.bool false)).wp K U (fun iu U =>
 ay iu (
 j v2 v3 v4 v7 fV v11 (.int .i64 5) U) (
 j v2 v3 v4 v7 fV v11 gH U)) (fun _ _ => False))))) (fun _ _ => False)) (fun _ _ => False)) (fun _ _ => False)) (fun _ _ => False)) (fun _ _ => False)) (fun _ _ => False))) (fun _ _ => False)) (fun _ _ => False))) (fun _ _ => False)) U) (fun U =>
 (ao aE v7 U).wp K U (fun xw U =>
 (aM aE v2 xw U).wp K U (fun _ U =>
 (aM aE v3 (.int .i64 0) U).wp K U (fun _ U =>
 (aM aE v4 (.int .i64 0) U).wp K U (fun _ U =>
 bI aE v2 U fun rY =>
 bI aE v3 U fun WA =>
 bI aE v4 U fun WD =>
 aj R (.aL [rY, WA, WD]) U) (aa R)) (aa R)) (aa R)) (aa R)) (fun i U =>
 Dc (Nat.beq i 0) (
 (ao aE v7 U).wp K U (fun Uh U =>
 (aM aE v2 Uh U).wp K U (fun _ U =>
 (aM aE v3 (.int .i64 0) U).wp K U (fun _ U =>
 (aM aE v4 (.int .i64 0) U).wp K U (fun _ U =>
 bI aE v2 U fun vO =>
 bI aE v3 U fun WB =>
 bI aE v4 U fun WE =>
 aj R (.aL [vO, WB, WE]) U) (aa R)) (aa R)) (aa R)) (aa R)) (
 False)) (fun U =>
 bI aE v2 U fun BN =>
 bI aE v3 U fun WC =>
 bI aE v4 U fun WG =>
 aj R (.aL [BN, WC, WG]) U) (fun x U => (aa R) x U)) (aa R))) (aa R)) (aa R))) (aa R)) (aa R)) (aa R)) (aa R))) (aa R)) (aa R)) (aa R)) (aa R)) (aa R)
def MW : Prop :=
 (eB a0).wp K U (fun v2 U =>
 (eB a1).wp K U (fun v3 U =>
 (ao (some (true, 1)) v2 U).wp K U (fun v6 U =>
 (ao aE v3 U).wp K U (fun v7 U =>
 ae K 78 [v6, v7, (.func (.func 79) [] [v3])] U (al (fun v9 U =>
 (aV v9 0).wp K U (fun v10 U =>
 (aV v9 1).wp K U (fun v11 U =>
 aj R (.aL [v10, v11]) U) (aa R)) (aa R)) (aa R))) (aa R)) (aa R)) (aa R)) (aa R)
def MX : Prop :=
 (eB a0).wp K U (fun v2 U =>
 (eB a1).wp K U (fun v3 U =>
 (ao (some (true, 1)) v2 U).wp K U (fun v6 U =>
 (ao aE v3 U).wp K U (fun v7 U =>
 ae K 82 [v6, v7, (.func (.func 84) [] [v3])] U (al (fun v9 U =>
 (aV v9 0).wp K U (fun v10 U =>
 (aV v9 1).wp K U (fun v11 U =>
 aj R (.aL [v10, v11]) U) (aa R)) (aa R)) (aa R))) (aa R)) (aa R)) (aa R)) (aa R)
def MY : Prop :=
 (bZ (some false) a0).wp K U (fun v5 U =>
 (aw .gtr aO true v5 (.int .i64 1000)).wp K U (fun v6 U =>
 ay v6 (
 aj R (.bool false) U) (
 dQ 2 [a0, (.int .i64 0)] U fun lp v0 v3 U =>
 (bZ (some false) v0).wp K U (fun v9 U =>
 (aw .lss aO false v3 v9).wp K U (fun v10 U =>
 ay v10 (
 (aJ (some (43, 6)) none v0 v3).wp K U (fun cM U =>
 (af (some 1) cM).wp K U (fun dA U =>
 (ao aE dA U).wp K U (fun dK U =>
 (bZ (some true) dK).wp K U (fun cz U =>
 (aw .gtr aO true cz (.int .i64 100)).wp K U (fun dE U =>
 ay dE (
 aj R (.bool false) U) (
 (aw .add aO true v3 (.int .i64 1)).wp K U (fun v12 U =>
 lp v0 v12 U) (aa R))) (aa R)) (aa R)) (aa R)) (aa R)) (aa R)) (
 aj R (.bool true) U)) (aa R)) (aa R))) (aa R)) (aa R)
def MR : Prop :=
 (eB a0).wp K U (fun v1 U =>
 ko 2 (fun gO fV U =>
 ay fV (
 ae K 17 [] U (al (fun dX U =>
 aj R dX U) (aa R))) (
 (af (some 0) gO).wp K U (fun v28 U =>
 (ao aE v28 U).wp K U (fun dS U =>
 (bZ (some false) dS).wp K U (fun v30 U =>
 (mw (some (3, 1)) (some [.int .i64 0]) true v30 v30).wp K U (fun v31 U =>
 dQ 3 [gO, v31, (.int .i64 0)] U fun lp yE v3 v4 U =>
 (af (some 0) yE).wp K U (fun fD U =>
 (ao aE fD U).wp K U (fun gY U =>
 (bZ (some false) gY).wp K U (fun gZ U =>
 (aw .lss aO false v4 gZ).wp K U (fun gH U =>
 ay gH (
 (ao (some (true, 1)) yE U).wp K U (fun v40 U =>
 ae K 26 [v40] U (al (fun lZ U =>
 ae K 35 [lZ, v4] U (al (fun iu U =>
 (aV iu 0).wp K U (fun o5 U =>
 (aV iu 1).wp K U (fun qU U =>
 (aw .neq aO true qU (.int .i64 0)).wp K U (fun qV U =>
 ay qV (
 aj R (.bool false) U) (
 dQ 6 [yE, v3, v4, o5, (.int .i64 1), (.int .i64 0)] U fun Bu o3 qj iV v5 v7 v8 U =>
 (bZ (some false) v5).wp K U (fun sJ U =>
 (aw .lss aO false v8 sJ).wp K U (fun v51 U =>
 ay v51 (
 (fun az : St =>
 av K (aJ (some (3, 1)) none v5 v8) (fun uc =>
 av K (ao aE uc az) (fun zz =>
 av K (aw .leq aO false zz iV) (fun v59 =>
 ah K (aF v59 false) (aA.val v5) (fun sK =>
 ah K (aF v59 false) (aA.val v8) (fun JE =>
 ah K (aF v59 false) (aJ (some (3, 1)) none sK JE) (fun JF =>
 ah K (aF v59 false) (ao aE JF az) (fun qW =>
 ah K (aF v59 false) (af (some 0) o3) (fun Cb =>
 ah K (aF v59 false) (ao aE Cb az) (fun JG =>
 ah K (aF v59 false) (bZ (some false) JG) (fun vj =>
 ah K (aF v59 false) (aw .geq aO false qW vj) (fun Sd =>
 av K (bu v59 (.bool true) Sd) (fun Cc =>
 ay Cc (
 aj R (.bool false) U) (
 (fun hP : St =>
 av K (ao (some (true, 1)) o3 hP) (fun Sf =>
 av K (aJ (some (3, 1)) none v5 v8) (fun v75 =>
 av K (ao aE v75 hP) (fun v76 =>
 ae K 26 [Sf] U (al (fun v72 U => cn ((cQ v75 ++ []) ++ ((cQ o3 ++ []) ++ [])) hP U /\
 ae K 38 [v72, v76] U (al (fun ud U => cn ((cQ v75 ++ []) ++ ((cQ o3 ++ []) ++ [])) hP U /\
 av K (aV ud 0) (fun Ny =>
 av K (aV ud 1) (fun Sg =>
 (aw .neq aO true Sg (.int .i64 0)).wp K U (fun Ce U =>
 ah K (aF Ce false) (aA.val Ny) (fun NA =>
 ah K (aF Ce false) (aA.val iV) (fun Sh =>
 ah K (aF Ce false) (aw .neq aO false NA Sh) (fun v85 =>
 (bu Ce (.bool true) v85).wp K U (fun Si U =>
 ay Si (
 aj R (.bool false) U) (
 (aJ (some (3, 1)) none v5 v8).wp K U (fun Sj U =>
 (ao aE Sj U).wp K U (fun v91 U =>
 (aJ (some (3, 1)) none qj v91).wp K U (fun Sm U =>
 (ao aE Sm U).wp K U (fun v93 U =>
 (aw .add aO true v93 (.int .i64 1)).wp K U (fun Sn U =>
 (aJ (some (3, 1)) none qj v91).wp K U (fun So U =>
 (aM aE So Sn U).wp K U (fun _ U =>
 (fun FT : St =>
 av K (af (some 0) o3) (fun Sq =>
 av K (ao aE Sq FT) (fun Zl =>
 av K (aJ (some (3, 1)) none v5 v8) (fun LN =>
 av K (ao aE LN FT) (fun LO =>
 av K (aJ (some (43, 6)) none Zl LO) (fun LP =>
 av K (af (some 5) LP) (fun LQ =>
 av K (ao aE LQ FT) (fun v105 =>
 av K (aw .add aO false v7 v105) (fun LR =>
 (aw .add aO true v8 (.int .i64 1)).wp K U (fun v53 U =>
 Bu o3 qj iV v5 LR v53 U) (aa R)))))))))) U) (aa R)) (aa R)) (aa R)) (aa R)) (aa R)) (aa R)) (aa R))) (aa R))))) (aa R)))) (aa R))) (aa R)))))) U)))))))))))))) U) (
 (af (some 0) o3).wp K U (fun WR U =>
 (ao aE WR U).wp K U (fun v109 U =>
 (aJ (some (43, 6)) none v109 iV).wp K U (fun LS U =>
 (af (some 5) LS).wp K U (fun LU U =>
 (ao aE LU U).wp K U (fun WT U =>
 (aw .neq aO false v7 WT).wp K U (fun LV U =>
 ay LV (
 aj R (.bool false) U) (
 (aw .add aO true iV (.int .i64 1)).wp K U (fun iU U =>
 lp o3 qj iU U) (aa R))) (aa R)) (aa R)) (aa R)) (aa R)) (aa R)) (aa R))) (aa R)) (aa R))) (aa R)) (aa R)) (aa R)) (aa R))) (aa R))) (aa R)) (
 dQ 2 [v3, (.int .i64 0)] U fun KX FE v11 U =>
 (bZ (some false) FE).wp K U (fun v117 U =>
 (aw .lss aO false v11 v117).wp K U (fun LW U =>
 ay LW (
 (aJ (some (3, 1)) none FE v11).wp K U (fun WY U =>
 (ao aE WY U).wp K U (fun v124 U =>
 (aw .neq aO true v124 (.int .i64 1)).wp K U (fun B8 U =>
 ah K (aF B8 true) (aA.val v11) (fun v127 =>
 ah K (aF B8 true) (aw .gtr aO true v127 (.int .i64 0)) (fun LX =>
 (bu B8 LX (.bool false)).wp K U (fun vZ U =>
 ah K (aF vZ false) (aA.val FE) (fun v131 =>
 ah K (aF vZ false) (aJ (some (3, 1)) none v131 (.int .i64 0)) (fun B9 =>
 ah K (aF vZ false) (ao aE B9 U) (fun qi =>
 ah K (aF vZ false) (aw .neq aO true qi (.int .i64 0)) (fun LY =>
 (bu vZ (.bool true) LY).wp K U (fun LZ U =>
 ay LZ (
 aj R (.bool false) U) (
 (aw .add aO true v11 (.int .i64 1)).wp K U (fun vY U =>
 KX FE vY U) (aa R))) (aa R)))))) (aa R)))) (aa R)) (aa R)) (aa R)) (
 ae K 17 [] U (al (fun L0 U =>
 aj R L0 U) (aa R)))) (aa R)) (aa R))) (aa R)) (aa R)) (aa R)) (aa R)) (aa R)) (aa R)) (aa R)) (aa R))) fun j =>
 (af (some 0) v1).wp K U (fun v12 U =>
 (ao aE v12 U).wp K U (fun cB U =>
 (bZ (some false) cB).wp K U (fun df U =>
 (aw .gtr aO true df (.int .i64 200)).wp K U (fun cM U =>
 ah K (aF cM false) (ao (some (true, 1)) v1 U) (fun dK =>
 ah K (aF cM false) (aA.enter 24 [dK]) (fun cz =>
 ah K (aF cM false) (gL .not cz) (fun dE =>
 (bu cM (.bool true) dE).wp K U (fun v20 U =>
 ah K (aF v20 false) (ao (some (true, 1)) v1 U) (fun dW =>
 ay (aF v20 false) (
 ae K 26 [dW] U (al (fun ey U =>
 ay (aF v20 false) (
 ae K 30 [ey] U (al (fun v24 U =>
 ah K (aF v20 false) (aw .neq aO true v24 (.int .i64 0)) (fun fj =>
 (bu v20 (.bool true) fj).wp K U (fun Ua U =>
 j v1 Ua U) (aa R))) (aa R))) (
 ah K (aF v20 false) (aw .neq aO true (.aL []) (.int .i64 0)) (fun T1 =>
 (bu v20 (.bool true) T1).wp K U (fun Ub U =>
 j v1 Ub U) (aa R)))) (aa R))) (
 ay (aF v20 false) (
 ae K 30 [(.aL [])] U (al (fun T0 U =>
 ah K (aF v20 false) (aw .neq aO true T0 (.int .i64 0)) (fun T4 =>
 (bu v20 (.bool true) T4).wp K U (fun Uc U =>
 j v1 Uc U) (aa R))) (aa R))) (
 ah K (aF v20 false) (aw .neq aO true (.aL []) (.int .i64 0)) (fun T9 =>
 (bu v20 (.bool true) T9).wp K U (fun Ud U =>
 j v1 Ud U) (aa R)))))) (aa R))))) (aa R)) (aa R)) (aa R)) (aa R)) (aa R)
def MS : Prop :=
 (eB a0).wp K U (fun v1 U =>
 (af (some 0) v1).wp K U (fun v3 U =>
 (ao aE v3 U).wp K U (fun v4 U =>
 ae K 49 [v4] U (al (fun v5 U =>
 aj R v5 U) (aa R))) (aa R)) (aa R)) (aa R)
def MT : Prop :=
 (eB a0).wp K U (fun v1 U =>
 (aA.cN [.aq]).wp K U (fun v2 U =>
 (af (some 0) v1).wp K U (fun v3 U =>
 (ao aE v3 U).wp K U (fun v4 U =>
 (eN (some (43, 6)) true .aq v4 U).wp K U (fun v5 U =>
 (dO (some [(0, 1)]) (some [.aq]) none [(0, v5)]).wp K U (fun v6 U =>
 (aM (some (true, 1)) v2 v6 U).wp K U (fun _ U =>
 bI (some (true, 1)) v2 U fun r0 =>
 aj R r0 U) (aa R)) (aa R)) (aa R)) (aa R)) (aa R)) (aa R)) (aa R)
end
section
variable {a0 a1 a2 a3 a4 a5 a6 : AV} {R : cm -> St -> Prop} {U : St}
theorem Lm (h : MZ a0 R U) : ae K 61 [a0] U R := bJ Tryz.f61 SR h
theorem Ln (h : M0 a0 R U) : ae K 68 [a0] U R := bJ Tryz.f68 SS h
theorem Lo (h : M4 a0 R U) : ae K 69 [a0] U R := bJ Tryz.f69 SU h
theorem Lp (h : M5 a0 R U) : ae K 74 [a0] U R := bJ Tryz.f74 SV h
theorem Lq (h : M6 a0 a1 R U) : ae K 75 [a0, a1] U R := bJ Tryz.f75 SW h
theorem Lr (h : M7 a0 a1 R U) : ae K 76 [a0, a1] U R := bJ Tryz.f76 SX h
theorem Ls (h : M8 a0 R U) : ae K 77 [a0] U R := bJ Tryz.f77 SY h
theorem Lt (h : M9 a0 a1 a2 R U) : ae K 78 [a0, a1, a2] U R := bJ Tryz.f78 SZ h
theorem Lu (h : Na a0 a1 R U) : ae K 79 [a0, a1] U R := bJ Tryz.f79 S0 h
theorem Lv (h : Nb a0 R U) : ae K 80 [a0] U R := bJ Tryz.f80 S5 h
theorem Lw (h : Nc a0 a1 R U) : ae K 81 [a0, a1] U R := bJ Tryz.f81 S6 h
theorem Lx (h : Nf a0 a1 a2 R U) : ae K 82 [a0, a1, a2] U R := bJ Tryz.f82 S7 h
theorem Ly (h : Ng a0 a1 R U) : ae K 84 [a0, a1] U R := bJ Tryz.f84 S8 h
theorem Lz (h : Nh a0 a1 R U) : ae K 85 [a0, a1] U R := bJ Tryz.f85 S9 h
theorem LA (h : TY a0 a1 R U) : ae K 99 [a0, a1] U R := bJ Tryz.f99 Ta h
theorem HK (h : HJ a0 a1 R U) : ae K 100 [a0, a1] U R := bJ Tryz.f100 OQ h
theorem HL (h : Rz a0 R U) : ae K 101 [a0] U R := bJ Tryz.f101 OR h
theorem HM (h : RA a0 a1 R U) : ae K 102 [a0, a1] U R := bJ Tryz.f102 OS h
theorem HO (h : HN a0 a1 R U) : ae K 103 [a0, a1] U R := bJ Tryz.f103 OT h
theorem HP (h : RB a0 a1 R U) : ae K 105 [a0, a1] U R := bJ Tryz.f105 OU h
theorem zt (h : BV a0 a1 a2 R U) : ae K 106 [a0, a1, a2] U R := bJ Tryz.f106 OV h
theorem HR (h : HQ a0 R U) : ae K 109 [a0] U R := bJ Tryz.f109 OW h
theorem HT (h : HS a0 a1 R U) : ae K 121 [a0, a1] U R := bJ Tryz.f121 OX h
theorem HV (h : HU a0 a1 a2 R U) : ae K 122 [a0, a1, a2] U R := bJ Tryz.f122 OY h
theorem HX (h : HW a0 a1 a2 R U) : ae K 131 [a0, a1, a2] U R := bJ Tryz.f131 OZ h
theorem HZ (h : HY a0 a1 R U) : ae K 132 [a0, a1] U R := bJ Tryz.f132 O0 h
theorem H2 (h : H0 a0 a1 R U) : ae K 133 [a0, a1] U R := bJ Tryz.f133 O3 h
theorem H4 (h : H3 a0 R U) : ae K 146 [a0] U R := bJ Tryz.f146 O5 h
theorem H6 (h : H5 a0 a1 a2 R U) : ae K 147 [a0, a1, a2] U R := bJ Tryz.f147 O6 h
theorem Ia (h : RC a0 a1 R U) : ae K 148 [a0, a1] U R := bJ Tryz.f148 O7 h
theorem Ic (h : Ib a0 R U) : ae K 149 [a0] U R := bJ Tryz.f149 O8 h
theorem Ig (h : Ie a0 R U) : ae K 150 [a0] U R := bJ Tryz.f150 O9 h
theorem Ih (h : RD a0 a1 R U) : ae K 151 [a0, a1] U R := bJ Tryz.f151 Pa h
theorem Ij (h : Ii a0 R U) : ae K 152 [a0] U R := bJ Tryz.f152 Pb h
theorem Lh (h : MU a0 R U) : ae K 30 [a0] U R := bJ Tryz.f30 SM h
theorem Li (h : MV a0 R U) : ae K 33 [a0] U R := bJ Tryz.f33 SN h
theorem Lj (h : MW a0 a1 R U) : ae K 35 [a0, a1] U R := bJ Tryz.f35 SO h
theorem Lk (h : MX a0 a1 R U) : ae K 38 [a0, a1] U R := bJ Tryz.f38 SP h
theorem Ll (h : MY a0 R U) : ae K 49 [a0] U R := bJ Tryz.f49 SQ h
theorem Ld (h : MR a0 R U) : ae K 10 [a0] U R := bJ Tryz.f10 SJ h
theorem Lf (h : MS a0 R U) : ae K 24 [a0] U R := bJ Tryz.f24 SK h
theorem Lg (h : MT a0 R U) : ae K 26 [a0] U R := bJ Tryz.f26 SL h
end
end Go.Rip
