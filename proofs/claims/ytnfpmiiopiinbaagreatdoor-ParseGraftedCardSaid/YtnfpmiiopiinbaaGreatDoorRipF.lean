/- Lemmas for the proof: no conditions. -/
import Derived.Test.YtnfpmiiopiinbaaGreatDoorRipZz
import Derived.Test.YtnfpmiiopiinbaaGreatDoorRipD
set_option linter.unusedVariables false
set_option linter.unusedSimpArgs false
set_option linter.loopingSimpArgs false
set_option maxRecDepth 100000
namespace Go.Rip
open Go.Proofs
def UP : An := ak (ak .z)
def UQ : An := ak (aQ (aQ (.rg [] [] (some ⟨[(true, 0), (true, 1), (true, 2), (true, 3), (true, 4), (true, 5), (true, 6), (true, 7), (true, 8), (true, 9), (true, 10), (true, 11), (true, 12), (true, 13), (true, 14), (true, 15), (true, 16), (true, 17), (true, 18), (true, 19), (true, 20), (true, 21), (true, 22), (true, 23), (true, 24), (true, 25), (true, 26)], [⟨32, 2, 0⟩, ⟨64, 32, 1⟩, ⟨128, 64, 2⟩, ⟨256, 128, 4⟩, ⟨512, 256, 8⟩, ⟨1024, 512, 16⟩, ⟨2048, 1026, 32⟩, ⟨4096, 3072, 96⟩, ⟨8192, 5120, 160⟩, ⟨16384, 9216, 288⟩, ⟨32768, 17408, 544⟩, ⟨65536, 33792, 1056⟩, ⟨131072, 66560, 2080⟩, ⟨262144, 132096, 4128⟩, ⟨524288, 262144, 8224⟩, ⟨1048576, 524290, 16384⟩, ⟨2097152, 1572864, 49152⟩, ⟨4194304, 2621440, 81920⟩, ⟨8388608, 4718592, 147456⟩, ⟨16777216, 8912896, 278528⟩, ⟨33554432, 17301504, 540672⟩, ⟨67108864, 524290, 16384⟩, ⟨134217728, 67633152, 2113536⟩, ⟨268435456, 134742016, 4210688⟩, ⟨536870912, 268959744, 8404992⟩, ⟨1073741824, 570949632, 17842176⟩, ⟨2147483648, 1074266112, 33570816⟩]⟩)) (.cd (ak .z) .z)) (ak (aQ (ak (.bk (.lp [1, 3, 36, 37] (ak (aQ (.cd .z .z) (aQ (.bk (ak (ak (.cd (ak .z) .z)))) eI)))))) (ak .z))))
def UR : An := aQ (.rg [1, 2] [] none) (aQ (.rg [3] [] none) (aQ (aQ (.rg [7, 8, 9, 10] [] none) (.bk (.lp [1, 2, 3, 8, 9, 10] (aQ (.rg [11] [] none) (aQ (.cd .z .z) (aQ (.bk (aQ (.rg [4, 5, 12, 13, 14] [] none) (aQ (.rg [3, 15, 16, 17] [] none) (aQ (aQ (.rg [18, 19, 20] [] none) (.cd (aQ (.rg [2] [] none) .z) .z)) (.rg [3, 21, 22, 23, 24, 25, 26, 27] [] none))))) (.rg [10, 28] [] none))))))) (aQ (.rg [6] [] none) (aQ (aQ (.rg [29, 30, 31] [] none) (.bk (.rf .z (.bk (.rg [33, 34] [] none))))) (aQ (.rg [2, 35, 36] [] none) .z)))))
def US : An := ak (aQ (ak (.cd (ak .z) .z)) (aQ (ak (.bk (.lp [0, 9, 10] (ak (aQ (.cd .z .z) (aQ (.bk (ak (ak (.cd (ak .z) .z)))) eI)))))) (ak .z)))
def UT : An := ak (ak .z)
def UU : An := ak (ak .z)
def UW : An := ak (ak (aQ (.bk (ak (.cd (ak .z) (ak (.cd (ak .z) (ak (.cd (ak .z) (ak (.cd (ak .z) (ak (.cd (ak .z) .z))))))))))) (ak .z)))
def UX : An := ak (aQ (.rg [] [] (some ⟨[(true, 0), (true, 1), (true, 2), (true, 3), (true, 4), (true, 5), (true, 6), (true, 7), (true, 8), (false, 9), (false, 10)], [⟨64, 8, 0⟩, ⟨128, 4, 0⟩, ⟨256, 128, 2⟩, ⟨512, 256, 4⟩, ⟨1024, 8, 0⟩, ⟨2048, 1536, 24⟩, ⟨4096, 2048, 32⟩, ⟨8192, 4096, 64⟩, ⟨16384, 8256, 129⟩, ⟨32, 0, 0⟩, ⟨0, 16416, 1023⟩]⟩)) (ak .z))
def UY : An := ak (ak (aQ (.bk (.lp [1, 2, 5] (aQ (ak (.cd .z .z)) (.bk eI)))) (ak .z)))
def UZ : An := ak (ak (aQ (.bk (ak (.cd (ak .z) (ak (.cd (ak .z) .z))))) (aQ (ak (ak (.cd (ak (ak .z)) .z))) (ak .z))))
def U0 : An := aQ (.rg [2] [] none) (aQ (aQ (.rg [3, 4] [] none) (.cd (aQ (.rg [2] [] none) .z) .z)) (aQ (.rg [2, 5, 6, 7] [] none) .z))
def U1 : An := ak (ak (aQ (.bk (ak (.cd (ak .z) (ak (.cd (ak .z) .z))))) (aQ (ak (ak (.cd (ak (ak .z)) .z))) (ak .z))))
def U2 : An := ak (aQ (.rg [] [] (some ⟨[(true, 0), (true, 1), (true, 2), (true, 3), (true, 4), (true, 5), (true, 6), (true, 7), (true, 8), (true, 9), (true, 10), (true, 11), (true, 12), (true, 13), (false, 14), (true, 15), (true, 16)], [⟨32, 4, 0⟩, ⟨64, 32, 1⟩, ⟨128, 64, 2⟩, ⟨256, 2, 0⟩, ⟨512, 2, 0⟩, ⟨1024, 4, 0⟩, ⟨2048, 1024, 32⟩, ⟨4096, 2048, 64⟩, ⟨8192, 2, 0⟩, ⟨16384, 12288, 384⟩, ⟨32768, 16384, 512⟩, ⟨65536, 32768, 1024⟩, ⟨131072, 66048, 2064⟩, ⟨262144, 131456, 4108⟩, ⟨524288, 262144, 8192⟩, ⟨8, 524288, 32767⟩, ⟨16, 0, 65535⟩]⟩)) .z)
def U3 : An := ak (aQ (.rg [] [] (some ⟨[(true, 0), (true, 1), (true, 2), (true, 3), (true, 4), (true, 5), (true, 6), (true, 7), (true, 8), (true, 9)], [⟨1024, 2, 0⟩, ⟨2048, 8, 0⟩, ⟨4096, 2048, 2⟩, ⟨8192, 4096, 4⟩, ⟨16384, 2, 0⟩, ⟨32768, 24576, 24⟩, ⟨65536, 32768, 32⟩, ⟨131072, 65536, 64⟩, ⟨262144, 132096, 129⟩, ⟨64, 262144, 511⟩]⟩)) (aQ (.rg [] [] (some ⟨[(true, 0), (true, 1), (true, 2), (true, 3), (true, 4), (true, 5), (true, 6), (true, 7), (true, 8), (true, 9), (true, 10), (true, 11), (false, 12), (true, 13)], [⟨524288, 8, 0⟩, ⟨1048576, 524288, 1⟩, ⟨2097152, 1048576, 2⟩, ⟨4194304, 2, 0⟩, ⟨8388608, 6291456, 12⟩, ⟨16777216, 4, 0⟩, ⟨33554432, 8, 0⟩, ⟨67108864, 33554432, 64⟩, ⟨134217728, 67108864, 128⟩, ⟨268435456, 64, 0⟩, ⟨536870912, 402653184, 768⟩, ⟨1073741824, 562036736, 1072⟩, ⟨2147483648, 1073741824, 2048⟩, ⟨128, 2147483648, 8191⟩]⟩)) (aQ (ak (.bk (.lp [1, 2, 3, 4, 6, 7, 8] (aQ (ak (.cd .z .z)) (.bk (ak (.rg [] [] (some ⟨[(true, 0), (true, 1), (true, 2), (true, 3), (true, 4), (true, 5), (true, 6), (true, 7), (true, 8), (true, 9), (true, 10), (true, 11), (true, 12), (true, 13), (false, 14)], [⟨274877906944, 128, 0⟩, ⟨549755813888, 256, 0⟩, ⟨1099511627776, 824633720832, 3⟩, ⟨2199023255552, 1099511627776, 4⟩, ⟨4398046511104, 2199023255552, 8⟩, ⟨8796093022208, 4, 0⟩, ⟨17592186044416, 8796093022208, 32⟩, ⟨35184372088832, 64, 0⟩, ⟨70368744177664, 2, 0⟩, ⟨140737488355328, 105553116266496, 384⟩, ⟨281474976710656, 158329674399744, 576⟩, ⟨562949953421312, 285873023221760, 1040⟩, ⟨1125899906842624, 824633720832, 4095⟩, ⟨2251799813685248, 1125899906842624, 8191⟩, ⟨0, 2814749767106560, 12287⟩]⟩)))))))) (ak (aQ (.rg [] [] (some ⟨[(true, 0), (true, 1), (false, 2), (false, 3), (true, 4)], [⟨18014398509481984, 512, 0⟩, ⟨36028797018963968, 512, 0⟩, ⟨72057594037927936, 36028797018963968, 2⟩, ⟨0, 18014398509482000, 5⟩, ⟨32, 72057594037927936, 15⟩]⟩)) .z)))))
def U4 : An := aQ (.rg [2] [] none) (aQ (.rg [3] [] none) (aQ (aQ (.rg [9, 10, 11] [] none) (.bk (.lp [0, 3, 9, 10, 11] (aQ (.rg [12] [] none) (aQ (.cd .z .z) (.sq (some [0, 3, 9, 10, 11]) (.bk (aQ (.rg [5, 13, 14] [] none) (aQ (.rg [3, 15, 16, 17, 18] [] none) (aQ (.rg [19, 20] [] none) (.cd (.rg [21] [] none) .z))))) (.rg [11, 22] [] none))))))) (aQ (.rg [6, 23, 24] [] none) (aQ (aQ (.rg [25, 26, 27] [] none) (.bk (.lp [6, 25, 26, 27] (aQ (.rg [28] [] none) (aQ (.cd .z .z) (aQ (.bk (aQ (.rg [8, 29, 30] [] none) (.rg [6, 31, 32, 33] [] none))) (.rg [27, 34] [] none))))))) (aQ (.rg [2, 35] [] none) .z)))))
def U5 : An := ak (ak .z)
def Qu : An := ak (aQ (ak (.cd (ak .z) .z)) (ak (ak .z)))
def Qv : An := ak (ak .z)
def Qw : An := ak (.cd eI .z)
def Qy : An := ak (ak (ak .z))
def Qz : An := ak (ak .z)
def QA : An := ak (.bk (.lp [0, 1, 2] (aQ (ak (.cd .z .z)) (.bk eI))))
def QB : An := ak (ak (ak (ak (.sq (some [3, 4]) (.bk (.lp [0, 3, 4] (aQ (ak (.cd .z .z)) (.bk (aQ (ak (aQ (.rg [] [61] none) (.cd .z .z))) (ak eI)))))) (aQ (ak (.cd (ak .z) .z)) (ak .z))))))
def QC : An := ak (aQ (.rg [] [178] none) .z)
def QD : An := ak (ak .z)
def QE : An := ak (ak (ak (aQ (aQ (.rg [] [122, 208] none) (.cd (ak .z) .z)) (aQ (aQ (.rg [] [122] none) (.cd (ak .z) .z)) (ak (ak (aQ (ak (.bk (.rf eI (.bk (aQ (.rg [] [] (some ⟨[(true, 0), (true, 1), (true, 2), (true, 3), (true, 4), (true, 5), (true, 6), (true, 7), (true, 8), (false, 9), (false, 10)], [⟨19807040628566084398385987584, 1024, 0⟩, ⟨39614081257132168796771975168, 8, 0⟩, ⟨79228162514264337593543950336, 39614081257132168796771975168, 2⟩, ⟨158456325028528675187087900672, 79228162514264337593543950336, 4⟩, ⟨316912650057057350374175801344, 4096, 0⟩, ⟨633825300114114700748351602688, 475368975085586025561263702016, 24⟩, ⟨1267650600228229401496703205376, 633825300114114700748351602688, 32⟩, ⟨2535301200456458802993406410752, 1267650600228229401496703205376, 64⟩, ⟨5070602400912917605986812821504, 2535301200456458802993406410752, 128⟩, ⟨10141204801825835211973625643008, 5090409441541483690385198809088, 257⟩, ⟨0, 10141204801825835211973625644032, 1023⟩]⟩)) (aQ (aQ (.rg [] [] (some ⟨[(true, 0), (true, 1), (true, 2), (true, 3), (true, 4), (true, 5), (true, 6), (true, 7), (true, 8), (true, 9), (true, 10), (true, 11), (true, 12), (true, 13), (true, 14)], [⟨20282409603651670423947251286016, 16, 0⟩, ⟨40564819207303340847894502572032, 128, 0⟩, ⟨81129638414606681695789005144064, 40564819207303340847894502572032, 2⟩, ⟨162259276829213363391578010288128, 101412048018258352119736256430080, 5⟩, ⟨324518553658426726783156020576256, 4096, 0⟩, ⟨649037107316853453566312041152512, 486777830487640090174734030864384, 24⟩, ⟨1298074214633706907132624082305024, 8, 0⟩, ⟨2596148429267413814265248164610048, 1298074214633706907132624082305024, 64⟩, ⟨5192296858534827628530496329220096, 2596148429267413814265248164610048, 128⟩, ⟨10384593717069655257060992658440192, 4096, 0⟩, ⟨20769187434139310514121985316880384, 15576890575604482885591488987660288, 768⟩, ⟨41538374868278621028243970633760768, 20769187434139310514121985316880384, 1024⟩, ⟨83076749736557242056487941267521536, 41538374868278621028243970633760768, 2048⟩, ⟨166153499473114484112975882535043072, 83725786843874095510054253308674048, 4128⟩, ⟨332306998946228968225951765070086144, 166153499473114484112975882535043072, 8192⟩]⟩)) (.cd (ak .z) .z)) eI)))))) (ak .z))))))))
def QF : An := ak (ak (aQ (ak (.cd (ak .z) .z)) (aQ (ak (.bk (.lp [0, 1, 5, 6] (aQ (ak (.cd .z .z)) (.sq (some [0, 1, 5, 6]) (.bk (ak (ak (.cd (ak eI) .z)))) eI))))) (ak (ak .z)))))
def QG : An := ak (ak .z)
def QH : An := ak (ak .z)
def QI : An := ak (.bk (.lp [0, 1, 2, 4] (aQ (ak (.cd .z .z)) (.bk (ak (.bk (.sq (some [0, 1, 2, 4, 14, 24]) (ak (.cd .z eI)) (.cd eI (ak (.cd (ak (aQ (ak (.cd .z .z)) eI)) (aQ (ak (.cd .z .z)) eI)))))))))))
def QJ : An := ak (ak .z)
def QK : An := ak (aQ (.bk (.lp [0, 2] (aQ (aQ (.rg [] [151] none) (.cd .z .z)) (.bk eI)))) (ak .z))
def QL : An := ak (aQ (ak (.bk (.lp [0, 2, 6, 7] (ak (aQ (.cd .z .z) (aQ (.bk (ak (ak (.cd (ak .z) .z)))) eI)))))) (aQ (aQ (.rg [] [214] none) (.cd (ak .z) .z)) (ak .z)))
def QM : An := ak (ak .z)
def QN : An := ak (ak (aQ (ak (.bk (.lp [0, 3, 6, 7] (ak (aQ (.cd .z .z) (aQ (.bk (ak (aQ (ak (.cd (ak .z) .z)) eI))) eI)))))) (aQ (.bk (ak (.cd (ak .z) (ak (.cd (ak .z) .z))))) (ak .z))))
def UJ : An := ak (aQ (.bk (ak (.cd (ak .z) (ak (.cd (ak .z) (ak (.cd (ak .z) .z))))))) (ak .z))
def UK : An := ak (aQ (ak (ak (.cd (ak .z) .z))) (ak (ak (aQ (ak (.bk (.rf (ak eI) (.bk (aQ (ak (.cd .z .z)) (ak (.sq (some [2, 3, 4, 7, 9, 11, 12]) (ak (.cd eI .z)) (aQ (ak (.cd (ak .z) .z)) (ak eI))))))))) (ak .z)))))
def UL : An := ak (ak .z)
def UM : An := ak (aQ (ak (.cd (ak .z) .z)) (aQ (ak (.bk (.lp [0, 1, 5] (aQ (ak (.cd .z .z)) (aQ (.bk (aQ (.rg [] [] (some ⟨[(true, 0), (true, 1), (true, 2), (true, 3), (true, 4), (true, 5), (true, 6), (true, 7), (true, 8)], [⟨131072, 1, 0⟩, ⟨262144, 32, 0⟩, ⟨524288, 393216, 3⟩, ⟨1048576, 524288, 4⟩, ⟨2097152, 2, 0⟩, ⟨4194304, 32, 0⟩, ⟨8388608, 6291456, 48⟩, ⟨16777216, 8388608, 64⟩, ⟨33554432, 17825792, 136⟩]⟩)) (.cd (ak .z) .z))) eI))))) (ak .z)))
def UN : An := ak (aQ (ak (.cd (ak .z) .z)) (aQ (ak (.bk (.lp [0, 3] (aQ (ak (.cd .z .z)) (aQ (.bk (ak (.cd (ak .z) .z))) eI))))) (ak .z)))
def UO : An := ak (ak .z)
def UG : An := ak (ak .z)
def UH : An := ak (ak .z)
def UI : An := aQ (.rg [1, 2] [] none) (aQ (.rg [3, 4, 5, 6] [] none) .z)
section
variable (a0 a1 a2 a3 a4 a5 a6 : AV) (R : cu -> St -> Prop) (U : St)
def OC : Prop :=
 (ez a0).wp K U (fun v1 U =>
 (aq (some (true, 3)) v1 U).wp K U (fun v3 U =>
 (aH (some (9, 1)) (some [.str []]) 3 false [(0, (.str nP)), (1, (.str vL)), (2, (.str nO))]).wp K U (fun v4 U =>
 ae K 121 [v3, v4] U (ar (fun v5 U =>
 al R v5 U) (aa R))) (aa R)) (aa R)) (aa R)
def OD : Prop :=
 (ez a0).wp K U (fun v1 U =>
 (fun ay : St =>
 ai K (af (some 0) v1) (fun v5 =>
 ai K (af (some 0) v5) (fun v6 =>
 ai K (aq aG v6 ay) (fun v7 =>
 ai K (bU (some false) v7) (fun v8 =>
 ai K (av .eql aL true v8 (.int .i64 0)) (fun v9 =>
 aj K (aI v9 false) (af (some 0) v1) (fun v11 =>
 aj K (aI v9 false) (af (some 0) v11) (fun v12 =>
 aj K (aI v9 false) (aq aG v12 ay) (fun cb =>
 aj K (aI v9 false) (aP (some (43, 6)) none cb (.int .i64 0)) (fun cL =>
 aj K (aI v9 false) (af (some 0) cL) (fun c6 =>
 aj K (aI v9 false) (aq aG c6 ay) (fun du =>
 aj K (aI v9 false) (av .neq aL true du (.int .u8 1)) (fun df =>
 ai K (bF v9 (.bool true) df) (fun ck =>
 aj K (aI ck false) (af (some 0) v1) (fun v20 =>
 aj K (aI ck false) (af (some 0) v20) (fun v21 =>
 aj K (aI ck false) (aq aG v21 ay) (fun de =>
 aj K (aI ck false) (aP (some (43, 6)) none de (.int .i64 0)) (fun eu =>
 aj K (aI ck false) (af (some 5) eu) (fun v24 =>
 aj K (aI ck false) (aq aG v24 ay) (fun dW =>
 aj K (aI ck false) (af (some 0) v1) (fun eY =>
 aj K (aI ck false) (af (some 0) eY) (fun dB =>
 aj K (aI ck false) (aq aG dB ay) (fun v28 =>
 aj K (aI ck false) (bU (some false) v28) (fun dO =>
 aj K (aI ck false) (av .neq aL false dW dO) (fun v30 =>
 ai K (bF ck (.bool true) v30) (fun v31 =>
 az v31 (
 al R (.bool false) U) (
 ae K 130 [] U (ar (fun iQ U =>
 (af (some 0) v1).wp K U (fun fj U =>
 (af (some 0) fj).wp K U (fun fQ U =>
 (aq aG fQ U).wp K U (fun gj U =>
 (bU (some false) gj).wp K U (fun hC U =>
 dQ 4 [v1, iQ, hC, (.int .i64 0)] U fun lp jK v3 nY v37 U =>
 (av .lss aL false v37 nY).wp K U (fun jl U =>
 az jl (
 (aq (some (true, 1)) jK U).wp K U (fun v40 U =>
 ae K 131 [v40, v37, v3] U (ar (fun iz U =>
 (gM .not iz).wp K U (fun ov U =>
 az ov (
 al R (.bool false) U) (
 (av .add aL true v37 (.int .i64 1)).wp K U (fun u9 U =>
 lp jK v3 nY u9 U) (aa R))) (aa R)) (aa R))) (aa R)) (
 al R (.bool true) U)) (aa R)) (aa R)) (aa R)) (aa R)) (aa R)) (aa R))))))))))))))))))))))))))))) U) (aa R)
def OE : Prop :=
 (ez a0).wp K U (fun v1 U =>
 (af (some 0) v1).wp K U (fun v7 U =>
 (aq aG v7 U).wp K U (fun v8 U =>
 (bU (some false) v8).wp K U (fun v9 U =>
 dQ 6 [v1, (.bool false), .ag, v8, v9, (.int .i64 0)] U fun lp jK v2 v3 pR jn v10 U =>
 (av .lss aL false v10 jn).wp K U (fun v11 U =>
 az v11 (
 (aP (some (43, 6)) none pR v10).wp K U (fun cb U =>
 (aq (some (true, 6)) cb U).wp K U (fun cL U =>
 (aA.cj [.int .i64 0]).wp K U (fun v4 U =>
 (aA.cj [.int .u8 0, .str [], .int .i64 0, .int .i64 0, .int .i64 0, .int .i64 0]).wp K U (fun v5 U =>
 (aF aG v4 v10 U).wp K U (fun _ U =>
 (aF (some (true, 6)) v5 cL U).wp K U (fun _ U =>
 ae K 132 [v3, (.func (.func 133) [] [v4])] U (ar (fun df U =>
 (bU (some false) df).wp K U (fun di U =>
 (av .gtr aL true di (.int .i64 60)).wp K U (fun v20 U =>
 az v20 (
 al R (.bool true) U) (
 (aq aG v4 U).wp K U (fun de U =>
 (af (some 5) v5).wp K U (fun eu U =>
 (aq aG eu U).wp K U (fun v24 U =>
 (av .add aL false de v24).wp K U (fun dW U =>
 (aH (some (3, 1)) (some [.int .i64 0]) 1 true [(0, dW)]).wp K U (fun eY U =>
 (dS (some (3, 1)) true df eY U).wp K U (fun dB U =>
 (av .add aL true v10 (.int .i64 1)).wp K U (fun v28 U =>
 lp jK v2 dB pR jn v28 U) (aa R)) (aa R)) (aa R)) (aa R)) (aa R)) (aa R)) (aa R))) (aa R)) (aa R)) (aa R))) (aa R)) (aa R)) (aa R)) (aa R)) (aa R)) (aa R)) (
 (aA.cj [.int .i64 0]).wp K U (fun v6 U =>
 (aF aG v6 (.int .i64 0) U).wp K U (fun _ U =>
 (aq (some (true, 1)) jK U).wp K U (fun dO U =>
 (dV (some [(0, 1)]) (some [.ag]) none [(0, dO)]).wp K U (fun v30 U =>
 ae K 81 [v30, (.int .i64 0)] U (ar (fun v31 U =>
 rT K 1 v31 U (fun iQ q U =>
 q.EI (fun U =>
 (aq aG v6 U).wp K U (fun fj U =>
 (av .add aL true fj (.int .i64 1)).wp K U (fun fQ U =>
 (aF aG v6 fQ U).wp K U (fun _ U =>
 q.n U) (fun _ _ => False)) (fun _ _ => False)) (fun _ _ => False)) U) (fun U =>
 (aq aG v6 U).wp K U (fun gj U =>
 (av .gtr aL true gj (.int .i64 24)).wp K U (fun hC U =>
 al R hC U) (aa R)) (aa R)) (fun i U =>
 HG (Nat.beq i 2) (
 (aq aG v6 U).wp K U (fun yy U =>
 (av .gtr aL true yy (.int .i64 24)).wp K U (fun nY U =>
 al R nY U) (aa R)) (aa R)) (
 False)) (fun U =>
 al R v2 U) (fun x U => (aa R) x U)) (aa R))) (aa R)) (aa R)) (aa R)) (aa R))) (aa R)) (aa R)) (aa R)) (aa R)) (aa R)
def OF : Prop :=
 (bU (some true) a0).wp K U (fun v6 U =>
 (av .gtr aL true v6 (.int .i64 2500)).wp K U (fun v7 U =>
 az v7 (
 al R (.aN [(.int .i64 0), (.int .i64 5)]) U) (
 (bU (some true) a0).wp K U (fun v9 U =>
 dQ 3 [a0, v9, (.int .i64 0)] U fun lp v0 jn v10 U =>
 (av .lss aL false v10 jn).wp K U (fun v11 U =>
 az v11 (
 (fD true none none v0 v10).wp K U (fun c6 U =>
 ae K 146 [c6] U (ar (fun du U =>
 (gM .not du).wp K U (fun df U =>
 az df (
 al R (.aN [v10, (.int .i64 2)]) U) (
 (av .add aL true v10 (.int .i64 1)).wp K U (fun di U =>
 lp v0 jn di U) (aa R))) (aa R)) (aa R))) (aa R)) (
 al R (.aN [(.int .i64 0), (.int .i64 0)]) U)) (aa R)) (aa R))) (aa R)) (aa R)
def OG (a0 a1 : AV) (R : cu -> St -> Prop) (U : St) : Prop :=
 (aq aG a1 U).wp K U (fun v4 U =>
 (aq aG a1 U).wp K U (fun v5 U =>
 (bU (some false) v5).wp K U (fun v6 U =>
 (av .sub aL true v6 (.int .i64 1)).wp K U (fun v7 U =>
 (aP (some (51, 3)) none v4 v7).wp K U (fun v8 U =>
 (af (some 1) v8).wp K U (fun v9 U =>
 (aq aG v9 U).wp K U (fun v10 U =>
 (bU (some true) v10).wp K U (fun v11 U =>
 al R v11 U) (aa R)) (aa R)) (aa R)) (aa R)) (aa R)) (aa R)) (aa R)) (aa R)
def OH : Prop :=
 (ez a0).wp K U (fun v2 U =>
 (ez a1).wp K U (fun v3 U =>
 al R (.func (.func 147) [] [v2, v3]) U) (aa R)) (aa R)
def OI : Prop :=
 (aA.cj [.int .u8 0, .str [], .int .i64 0]).wp K U (fun v2 U =>
 ae K 149 [a0] U (ar (fun v7 U =>
 (dh true none a0 none (some v7)).wp K U (fun v8 U =>
 (av .eql aL true v8 (.str w_)).wp K U (fun v11 U =>
 az v11 (
 ae K 150 [a0] U (ar (fun cb U =>
 (aV cb 0).wp K U (fun cL U =>
 (aV cb 1).wp K U (fun c6 U =>
 (aF (some (true, 3)) v2 cL U).wp K U (fun _ U =>
 bA (some (true, 3)) v2 U fun r0 =>
 al R (.aN [r0, c6]) U) (aa R)) (aa R)) (aa R)) (aa R))) (
 (fD true none none v8 (.int .i64 0)).wp K U (fun ck U =>
 (aH (some (178, 1)) (some [.int .i64 0]) 1 false [(0, (.int .i64 2))]).wp K U (fun di U =>
 ae K 151 [ck, di] U (ar (fun v20 U =>
 az v20 (
 (dV (some [(0, 1), (1, 1), (2, 1)]) (some [.int .u8 0, .str [], .int .i64 0]) none [(0, (.int .u8 2)), (1, v8)]).wp K U (fun de U =>
 ae K 152 [v8] U (ar (fun v24 U =>
 (aF (some (true, 3)) v2 de U).wp K U (fun _ U =>
 bA (some (true, 3)) v2 U fun pM =>
 al R (.aN [pM, v24]) U) (aa R)) (aa R))) (aa R)) (
 (fD true none none v8 (.int .i64 0)).wp K U (fun dB U =>
 (aH (some (178, 1)) (some [.int .i64 0]) 1 false [(0, (.int .i64 3))]).wp K U (fun v28 U =>
 ae K 151 [dB, v28] U (ar (fun dO U =>
 (gM .not dO).wp K U (fun v30 U =>
 az v30 (
 (dV (some [(0, 1), (1, 1), (2, 1)]) (some [.int .u8 0, .str [], .int .i64 0]) none []).wp K U (fun v31 U =>
 (aF (some (true, 3)) v2 v31 U).wp K U (fun _ U =>
 bA (some (true, 3)) v2 U fun sY =>
 al R (.aN [sY, (.int .i64 4)]) U) (aa R)) (aa R)) (
 ae K 153 [] U (ar (fun fj U =>
 (eM (some (.s, 4)) (some (.bool false)) fj v8 false U).wp K U (fun gj U =>
 az gj (
 (dV (some [(0, 1), (1, 1), (2, 1)]) (some [.int .u8 0, .str [], .int .i64 0]) none [(0, (.int .u8 3)), (1, v8)]).wp K U (fun v37 U =>
 (aF (some (true, 3)) v2 v37 U).wp K U (fun _ U =>
 bA (some (true, 3)) v2 U fun xf =>
 al R (.aN [xf, (.int .i64 0)]) U) (aa R)) (aa R)) (
 (bU (some true) v8).wp K U (fun v40 U =>
 (av .gtr aL true v40 (.int .i64 12)).wp K U (fun lu U =>
 az lu (
 (dV (some [(0, 1), (1, 1), (2, 1)]) (some [.int .u8 0, .str [], .int .i64 0]) none []).wp K U (fun nx U =>
 (aF (some (true, 3)) v2 nx U).wp K U (fun _ U =>
 bA (some (true, 3)) v2 U fun Ms =>
 al R (.aN [Ms, (.int .i64 4)]) U) (aa R)) (aa R)) (
 (dV (some [(0, 1), (1, 1), (2, 1)]) (some [.int .u8 0, .str [], .int .i64 0]) none [(0, (.int .u8 1)), (1, v8)]).wp K U (fun ov U =>
 (aF (some (true, 3)) v2 ov U).wp K U (fun _ U =>
 bA (some (true, 3)) v2 U fun Mt =>
 al R (.aN [Mt, (.int .i64 0)]) U) (aa R)) (aa R))) (aa R)) (aa R))) (aa R)) (aa R)))) (aa R)) (aa R))) (aa R)) (aa R))) (aa R))) (aa R)) (aa R))) (aa R)) (aa R)) (aa R))) (aa R)
def OJ : Prop :=
 (ez a0).wp K U (fun v2 U =>
 (ez a1).wp K U (fun v3 U =>
 (fun ay : St =>
 ai K (aq aG v3 ay) (fun v6 =>
 ai K (af (some 0) v2) (fun v7 =>
 ai K (af (some 0) v7) (fun v8 =>
 ai K (aq aG v8 ay) (fun v9 =>
 ai K (aq aG v3 ay) (fun v10 =>
 ai K (aP (some (43, 6)) none v9 v10) (fun v11 =>
 ai K (af (some 5) v11) (fun v12 =>
 ai K (aq aG v12 ay) (fun cb =>
 ai K (av .add aL false v6 cb) (fun cL =>
 (aA.cj [.int .i64 0]).wp K U (fun v5 U => bG ((bV v12 ++ []) ++ ((bV v3 ++ []) ++ ((bV v8 ++ []) ++ ((bV v3 ++ []) ++ [])))) ay U /\
 (aF aG v5 cL U).wp K U (fun _ U =>
 al R (.func (.func 155) [] [v3, v5, v2]) U) (aa R)) (aa R))))))))))) U) (aa R)) (aa R)
def OK : Prop :=
 (ez a0).wp K U (fun v2 U =>
 (av .sub aL true a1 (.int .i64 1)).wp K U (fun v7 U =>
 dQ 3 [a1, v2, v7] U fun lp v1 kQ v5 U =>
 (af (some 0) kQ).wp K U (fun v9 U =>
 (af (some 0) v9).wp K U (fun v10 U =>
 (aq aG v10 U).wp K U (fun v11 U =>
 (aP (some (43, 6)) none v11 v5).wp K U (fun cb U =>
 (af (some 5) cb).wp K U (fun cL U =>
 (aq aG cL U).wp K U (fun c6 U =>
 (av .add aL false v5 c6).wp K U (fun du U =>
 (av .leq aL false du v1).wp K U (fun ck U =>
 az ck (
 (av .sub aL true v5 (.int .i64 1)).wp K U (fun v20 U =>
 lp v1 kQ v20 U) (aa R)) (
 al R v5 U)) (aa R)) (aa R)) (aa R)) (aa R)) (aa R)) (aa R)) (aa R)) (aa R)) (aa R)) (aa R)
def OL : Prop :=
 (ez a0).wp K U (fun v3 U =>
 (aA.cj [.ag]).wp K U (fun v6 U =>
 (aq (some (true, 1)) v3 U).wp K U (fun v9 U =>
 ae K 30 [v9] U (ar (fun v10 U =>
 (av .neq aL true v10 (.int .i64 0)).wp K U (fun cb U =>
 az cb (
 (aq (some (true, 1)) v6 U).wp K U (fun cL U =>
 (aF (some (true, 1)) v6 cL U).wp K U (fun _ U =>
 bA (some (true, 1)) v6 U fun r0 =>
 al R (.aN [r0, v10]) U) (aa R)) (aa R)) (
 (af (some 0) v3).wp K U (fun df U =>
 (aq aG df U).wp K U (fun ck U =>
 (bU (some false) ck).wp K U (fun di U =>
 (av .sub aL true di (.int .i64 1)).wp K U (fun v20 U =>
 ae K 122 [(.int .i64 0), v20, a1] U (ar (fun de U =>
 (gM .not de).wp K U (fun eu U =>
 az eu (
 (aq (some (true, 1)) v6 U).wp K U (fun v24 U =>
 (aF (some (true, 1)) v6 v24 U).wp K U (fun _ U =>
 bA (some (true, 1)) v6 U fun pM =>
 al R (.aN [pM, (.int .i64 3)]) U) (aa R)) (aa R)) (
 (aq (some (true, 1)) v3 U).wp K U (fun dB U =>
 (dV (some [(0, 1)]) (some [.ag]) none [(0, dB)]).wp K U (fun v28 U =>
 (fo K.P a2 [v28]).wp K U (fun dO U =>
 (aV dO 0).wp K U (fun v30 U =>
 (aV dO 1).wp K U (fun v31 U =>
 (aF (some (true, 1)) v6 v30 U).wp K U (fun _ U =>
 (av .neq aL true v31 (.int .i64 0)).wp K U (fun fj U =>
 az fj (
 (aA.cj [.ag]).wp K U (fun v8 U =>
 (aq (some (true, 1)) v8 U).wp K U (fun fQ U =>
 (aF (some (true, 1)) v6 fQ U).wp K U (fun _ U =>
 bA (some (true, 1)) v6 U fun sY =>
 al R (.aN [sY, v31]) U) (aa R)) (aa R)) (aa R)) (
 (aq (some (true, 1)) v6 U).wp K U (fun hC U =>
 (aF (some (true, 1)) v6 hC U).wp K U (fun _ U =>
 bA (some (true, 1)) v6 U fun xf =>
 al R (.aN [xf, (.int .i64 0)]) U) (aa R)) (aa R))) (aa R)) (aa R)) (aa R)) (aa R)) (aa R)) (aa R)) (aa R))) (aa R)) (aa R))) (aa R)) (aa R)) (aa R)) (aa R))) (aa R)) (aa R))) (aa R)) (aa R)) (aa R)
def OM : Prop :=
 (av .eql (BT.mk false false false none true) true a0 .ag).wp K U (fun v4 U =>
 az v4 (
 al R .ag U) (
 (aH (some (43, 6)) (some [.int .u8 0, .str [], .int .i64 0, .int .i64 0, .int .i64 0, .int .i64 0]) 0 true []).wp K U (fun v5 U =>
 (dS (some (43, 6)) true v5 a0 U).wp K U (fun v7 U =>
 al R v7 U) (aa R)) (aa R))) (aa R)
def ON : Prop :=
 (ez a0).wp K U (fun v3 U =>
 (aq (some (true, 1)) v3 U).wp K U (fun v9 U =>
 ae K 30 [v9] U (ar (fun v10 U =>
 (av .neq aL true v10 (.int .i64 0)).wp K U (fun cb U =>
 az cb (
 al R (.aN [.ag, v10]) U) (
 (af (some 0) v3).wp K U (fun df U =>
 (aq aG df U).wp K U (fun ck U =>
 (bU (some false) ck).wp K U (fun di U =>
 (av .sub aL true di (.int .i64 1)).wp K U (fun v20 U =>
 ae K 122 [(.int .i64 0), v20, a1] U (ar (fun de U =>
 (gM .not de).wp K U (fun eu U =>
 az eu (
 al R (.aN [.ag, (.int .i64 3)]) U) (
 (aq (some (true, 1)) v3 U).wp K U (fun dB U =>
 (dV (some [(0, 1)]) (some [.ag]) none [(0, dB)]).wp K U (fun v28 U =>
 (fo K.P a2 [v28]).wp K U (fun dO U =>
 (aV dO 0).wp K U (fun v30 U =>
 (aV dO 1).wp K U (fun v31 U =>
 (av .neq aL true v31 (.int .i64 0)).wp K U (fun fj U =>
 az fj (
 al R (.aN [.ag, v31]) U) (
 al R (.aN [v30, (.int .i64 0)]) U)) (aa R)) (aa R)) (aa R)) (aa R)) (aa R)) (aa R))) (aa R)) (aa R))) (aa R)) (aa R)) (aa R)) (aa R))) (aa R)) (aa R))) (aa R)) (aa R)
def OO : Prop :=
 (ez a0).wp K U (fun v2 U =>
 (fun ay : St =>
 ai K (af (some 0) v2) (fun v5 =>
 ai K (af (some 0) v5) (fun v6 =>
 ai K (aq aG v6 ay) (fun v7 =>
 ai K (aq aG a1 ay) (fun v8 =>
 ai K (aq aG a1 ay) (fun v9 =>
 ai K (af (some 0) v2) (fun v10 =>
 ai K (af (some 0) v10) (fun v11 =>
 ai K (aq aG v11 ay) (fun v12 =>
 ai K (aq aG a1 ay) (fun cb =>
 ai K (aP (some (43, 6)) none v12 cb) (fun cL =>
 ai K (af (some 5) cL) (fun c6 =>
 ai K (aq aG c6 ay) (fun du =>
 ai K (av .add aL false v9 du) (fun df =>
 ai K (dh false (some (43, 6)) v7 (some v8) (some df)) (fun ck =>
 ae K 89 [ck] U (ar (fun di U => bG ((bV c6 ++ []) ++ ((bV a1 ++ []) ++ ((bV v11 ++ []) ++ ((bV a1 ++ []) ++ ((bV a1 ++ []) ++ ((bV v6 ++ []) ++ [])))))) ay U /\
 al R (.aN [di, (.int .i64 0)]) U) (aa R))))))))))))))))) U) (aa R)
def OP : Prop :=
 (ez a0).wp K U (fun v3 U =>
 (aA.cj [.ag]).wp K U (fun v4 U =>
 (fun ay : St =>
 ai K (aq aG a1 ay) (fun v10 =>
 ai K (af (some 0) v3) (fun v11 =>
 ai K (af (some 0) v11) (fun v12 =>
 ai K (aq aG v12 ay) (fun cb =>
 ai K (aq aG a1 ay) (fun cL =>
 ai K (aP (some (43, 6)) none cb cL) (fun c6 =>
 ai K (af (some 5) c6) (fun du =>
 ai K (aq aG du ay) (fun df =>
 ai K (av .add aL false v10 df) (fun ck =>
 (fun eg : St =>
 ai K (af (some 0) v3) (fun di =>
 ai K (af (some 0) di) (fun v20 =>
 ai K (aq aG v20 eg) (fun v21 =>
 ai K (aq aG a1 eg) (fun de =>
 ai K (dh false (some (43, 6)) v21 none (some de)) (fun eu =>
 ai K (aq aG a2 eg) (fun v24 =>
 ai K (af (some 0) v3) (fun dW =>
 ai K (af (some 0) dW) (fun eY =>
 ai K (aq aG eY eg) (fun dB =>
 ai K (dh false (some (43, 6)) dB (some ck) none) (fun dO =>
 ai K (aH (some (23, 1)) (some [.ag]) 3 false [(0, eu), (1, v24), (2, dO)]) (fun v30 =>
 ae K 95 [v30] U (ar (fun v31 U => bG ((bV eY ++ []) ++ ((bV a2 ++ []) ++ ((bV a1 ++ []) ++ ((bV v20 ++ []) ++ [])))) eg U /\
 (aq aG a1 U).wp K U (fun iQ U =>
 dQ 7 [a1, a2, v3, v4, ck, v31, iQ] U fun lp v1 v2 jm kg v6 v7 v8 U =>
 (av .gtr aL true v8 (.int .i64 0)).wp K U (fun fQ U =>
 az fQ (
 (aq (some (true, 1)) jm U).wp K U (fun gj U =>
 ae K 85 [gj, v8] U (ar (fun v37 U =>
 (fun vM : St =>
 ai K (aP (some (43, 6)) none v7 v37) (fun v40 =>
 ai K (af (some 5) v40) (fun lu =>
 ai K (aq aG lu vM) (fun nx =>
 ai K (aq aG v2 vM) (fun iz =>
 ai K (bU (some false) iz) (fun ov =>
 ai K (aq aG v1 vM) (fun v46 =>
 ai K (av .sub aL false v6 v46) (fun ow =>
 ai K (av .sub aL false ov ow) (fun AI =>
 ai K (av .add aL false nx AI) (fun v49 =>
 ai K (aP (some (43, 6)) none v7 v37) (fun qz =>
 ai K (af (some 5) qz) (fun v51 =>
 (aF aG v51 v49 U).wp K U (fun _ U =>
 lp v1 v2 jm kg v6 v7 v37 U) (aa R))))))))))))) U) (aa R))) (aa R)) (
 (dV (some [(0, 1)]) (some [.ag]) none [(0, v7)]).wp K U (fun v53 U =>
 (aA.cj [.ag]).wp K U (fun v9 U =>
 (aF (some (true, 1)) v9 v53 U).wp K U (fun _ U =>
 (fun Bi : St =>
 ai K (aq (some (true, 1)) v9 Bi) (fun rX =>
 ai K (aq (some (true, 1)) v9 Bi) (fun pQ =>
 ae K 30 [pQ] U (ar (fun rY U => bG ((bV v9 ++ []) ++ ((bV v9 ++ []) ++ [])) Bi U /\
 (aF (some (true, 1)) kg rX U).wp K U (fun _ U => bG ((bV v9 ++ []) ++ ((bV v9 ++ []) ++ [])) Bi U /\
 bA (some (true, 1)) kg U fun r0 =>
 al R (.aN [r0, rY]) U) (aa R)) (aa R))))) U) (aa R)) (aa R)) (aa R))) (aa R)) (aa R)) (aa R)))))))))))))) U)))))))))) U) (aa R)) (aa R)
def OQ : Prop :=
 (bU (some false) a0).wp K U (fun v10 U =>
 dQ 5 [a0, (.int .i64 0), a0, v10, (.int .i64 0)] U fun lp v0 v3 v9 te v11 U =>
 (av .lss aL false v11 te).wp K U (fun v12 U =>
 az v12 (
 gC 5 (fun ni jm jn VU tf U =>
 (av .add aL true tf (.int .i64 1)).wp K U (fun de U =>
 lp ni jm jn VU de U) (aa R)) fun j =>
 (aP (some (23, 1)) none v9 v11).wp K U (fun cb U =>
 (aq aG cb U).wp K U (fun cL U =>
 (bU (some false) cL).wp K U (fun df U =>
 (av .add aL false v3 df).wp K U (fun ck U =>
 (av .lss aL true ck (.int .i64 0)).wp K U (fun v20 U =>
 az v20 (
 (mT true 9 (.str pU)).wp K U (fun v21 U =>
 (mW v21).wp K U (fun _ U =>
 j v0 ck v9 te v11 U) (aa R)) (aa R)) (
 j v0 ck v9 te v11 U)) (aa R)) (aa R)) (aa R)) (aa R)) (aa R)) (
 ae K 157 [.ag, v3] U (ar (fun v24 U =>
 (bU (some false) v0).wp K U (fun eY U =>
 dQ 4 [v24, v0, eY, (.int .i64 0)] U fun wY v6 dW th dB U =>
 (av .lss aL false dB th).wp K U (fun v28 U =>
 az v28 (
 (aP (some (23, 1)) none dW dB).wp K U (fun dO U =>
 (aq aG dO U).wp K U (fun v30 U =>
 (dS (some (43, 6)) true v6 v30 U).wp K U (fun fj U =>
 (av .add aL true dB (.int .i64 1)).wp K U (fun fQ U =>
 wY fj dW th fQ U) (aa R)) (aa R)) (aa R)) (aa R)) (
 al R v6 U)) (aa R)) (aa R)) (aa R)))) (aa R)) (aa R)
def VT : Prop :=
 ae K 164 [a0] U (ar (fun v7 U =>
 (dV (some [(0, 1), (1, 1), (2, 1), (3, 1), (4, 1), (5, 1)]) (some [.int .u8 0, .str [], .int .i64 0, .int .i64 0, .int .i64 0, .int .i64 0]) none [(0, a1), (4, v7)]).wp K U (fun v8 U =>
 (dV (some [(0, 6), (6, 1)]) (some [.int .u8 0, .str [], .int .i64 0, .int .i64 0, .int .i64 0, .int .i64 0, .ag]) none [(0, v8)]).wp K U (fun v9 U =>
 (ez v9).wp K U (fun v10 U =>
 al R v10 U) (aa R)) (aa R)) (aa R)) (aa R))
def Jf : Prop :=
 (aH (some (9, 1)) (some [.str []]) 1 false [(0, a1)]).wp K U (fun v7 U =>
 ae K 105 [a0, v7] U (ar (fun v8 U =>
 (gM .not v8).wp K U (fun v9 U =>
 az v9 (
 al R (.bool false) U) (
 (bh a0).wp K U (fun v11 U =>
 (af (some 1) v11).wp K U (fun v12 U =>
 (aq aG v12 U).wp K U (fun cb U =>
 (av .add aL true cb (.int .i64 1)).wp K U (fun cL U =>
 (bh a0).wp K U (fun c6 U =>
 (af (some 1) c6).wp K U (fun du U =>
 (aF aG du cL U).wp K U (fun _ U =>
 al R (.bool true) U) (aa R)) (aa R)) (aa R)) (aa R)) (aa R)) (aa R)) (aa R))) (aa R)) (aa R))) (aa R)
def Ti : Prop :=
 ae K 165 [a0, (.int .u8 1)] U (ar (fun v4 U =>
 al R v4 U) (aa R))
def Tj : Prop :=
 ae K 100 [a0, a1] U (ar (fun v6 U =>
 (gM .not v6).wp K U (fun v7 U =>
 az v7 (
 ae K 166 [a0] U (ar (fun v9 U =>
 al R (.aN []) U) (aa R))) (
 al R (.aN []) U)) (aa R)) (aa R))
def Jj : Prop :=
 (bh a0).wp K U (fun v7 U =>
 (af (some 6) v7).wp K U (fun v8 U =>
 (aq aG v8 U).wp K U (fun v9 U =>
 (dS (some (87, 1)) false v9 a1 U).wp K U (fun v11 U =>
 (bh a0).wp K U (fun v12 U =>
 (af (some 6) v12).wp K U (fun cb U =>
 (aF aG cb v11 U).wp K U (fun _ U =>
 al R a0 U) (aa R)) (aa R)) (aa R)) (aa R)) (aa R)) (aa R)) (aa R)
def Tl : Prop :=
 ae K 167 [a0, (.int .i64 0)] U (ar (fun v6 U =>
 ae K 121 [v6, a1] U (ar (fun v8 U =>
 al R v8 U) (aa R))) (aa R))
def C1 : Prop :=
 (fo K.P a2 []).wp K U (fun v8 U =>
 (aH (some (87, 1)) (some [.aT]) 1 false [(0, v8)]).wp K U (fun v9 U =>
 ae K 103 [a1, v9] U (ar (fun v10 U =>
 dQ 3 [a0, a1, a2] U fun lp v0 v1 v2 U =>
 ae K 100 [v0, (.str yD)] U (ar (fun v12 U =>
 az v12 (
 (fo K.P v2 []).wp K U (fun c6 U =>
 (aH (some (87, 1)) (some [.aT]) 1 false [(0, c6)]).wp K U (fun du U =>
 ae K 103 [v1, du] U (ar (fun df U =>
 lp v0 v1 v2 U) (aa R))) (aa R)) (aa R)) (
 al R (.aN []) U)) (aa R))) (aa R))) (aa R)) (aa R)
def Jm : Prop :=
 ae K 169 [a0] U (ar (fun v7 U =>
 ae K 99 [a0, (.int .u8 9)] U (ar (fun v9 U =>
 (aH (some (87, 1)) (some [.aT]) 1 false [(0, v7)]).wp K U (fun v12 U =>
 ae K 103 [v9, v12] U (ar (fun cb U =>
 gC 2 (fun v3 v4 U =>
 (bh v4).wp K U (fun fQ U =>
 (af (some 6) fQ).wp K U (fun gj U =>
 (aq aG gj U).wp K U (fun hC U =>
 (bU (some false) hC).wp K U (fun v37 U =>
 (av .eql aL true v37 (.int .i64 1)).wp K U (fun jl U =>
 az jl (
 al R v3 U) (
 al R v4 U)) (aa R)) (aa R)) (aa R)) (aa R)) (aa R)) fun j =>
 dQ 3 [a0, v7, v9] U fun lp v0 jm kg U =>
 (aH (some (9, 1)) (some [.str []]) 1 false [(0, (.str ti))]).wp K U (fun c6 U =>
 ae K 105 [v0, c6] U (ar (fun du U =>
 az du (
 ae K 167 [v0, (.int .i64 1)] U (ar (fun ck U =>
 (aA.cj [.int .u8 0, .str [], .int .i64 0]).wp K U (fun v5 U =>
 (aF (some (true, 3)) v5 ck U).wp K U (fun _ U =>
 (af (some 0) v5).wp K U (fun di U =>
 (aq aG di U).wp K U (fun v20 U =>
 (av .eql aL true v20 (.int .u8 0)).wp K U (fun v21 U =>
 aj K (aI v21 false) (aq (some (true, 3)) v5 U) (fun eu =>
 aj K (aI v21 false) (aA.enter 61 [eu]) (fun v24 =>
 (bF v21 (.bool true) v24).wp K U (fun dW U =>
 az dW (
 j jm kg U) (
 ae K 102 [v0, (.str ti)] U (ar (fun dB U =>
 ae K 169 [v0] U (ar (fun v30 U =>
 (aH (some (87, 1)) (some [.aT]) 1 false [(0, v30)]).wp K U (fun v31 U =>
 ae K 103 [kg, v31] U (ar (fun iQ U =>
 lp v0 jm kg U) (aa R))) (aa R)) (aa R))) (aa R)))) (aa R)))) (aa R)) (aa R)) (aa R)) (aa R)) (aa R)) (aa R))) (
 j jm kg U)) (aa R))) (aa R)) (aa R))) (aa R)) (aa R))) (aa R))
def Jo : Prop :=
 (ez a0).wp K U (fun v2 U =>
 (af (some 0) v2).wp K U (fun v5 U =>
 (aq aG v5 U).wp K U (fun v6 U =>
 (av .eql aL true v6 (.int .u8 3)).wp K U (fun v7 U =>
 aj K (aI v7 false) (af (some 0) v2) (fun v9 =>
 aj K (aI v7 false) (aq aG v9 U) (fun v10 =>
 aj K (aI v7 false) (av .eql aL true v10 (.int .u8 4)) (fun v11 =>
 (bF v7 (.bool true) v11).wp K U (fun v12 U =>
 aj K (aI v12 true) (aA.val a1) (fun cL =>
 aj K (aI v12 true) (af (some 1) v2) (fun c6 =>
 aj K (aI v12 true) (aq aG c6 U) (fun du =>
 aj K (aI v12 true) (aA.enter 178 [cL, du]) (fun df =>
 (bF v12 df (.bool false)).wp K U (fun ck U =>
 al R ck U) (aa R)))))) (aa R))))) (aa R)) (aa R)) (aa R)) (aa R)
def Jq : Prop :=
 (av .geq aL false a2 a0).wp K U (fun v9 U =>
 aj K (aI v9 true) (aA.val a2) (fun v11 =>
 aj K (aI v9 true) (aA.val a1) (fun v12 =>
 aj K (aI v9 true) (av .leq aL false v11 v12) (fun cb =>
 (bF v9 cb (.bool false)).wp K U (fun cL U =>
 al R cL U) (aa R))))) (aa R)
def Js : Prop :=
 (ez a0).wp K U (fun v3 U =>
 (ez a1).wp K U (fun v4 U =>
 (aA.cj [.bool false]).wp K U (fun v6 U =>
 (af (some 0) v3).wp K U (fun cb U =>
 (af (some 0) cb).wp K U (fun cL U =>
 (aq aG cL U).wp K U (fun c6 U =>
 (aq aG v4 U).wp K U (fun du U =>
 (aP (some (43, 6)) none c6 du).wp K U (fun df U =>
 (aq (some (true, 6)) df U).wp K U (fun ck U =>
 (aA.cj [.int .u8 0, .str [], .int .i64 0, .int .i64 0, .int .i64 0, .int .i64 0]).wp K U (fun v7 U =>
 (aF (some (true, 6)) v7 ck U).wp K U (fun _ U =>
 (af (some 0) v7).wp K U (fun v21 U =>
 (aq aG v21 U).wp K U (fun de U =>
 (eM (some (.i, 204)) (some (.agg [.bool false, .bool false, .bool false, .ag])) a2 de true U).wp K U (fun eu U =>
 (aV eu 0).wp K U (fun v24 U =>
 (aV eu 1).wp K U (fun dW U =>
 (aA.cj [.bool false, .bool false, .bool false, .ag]).wp K U (fun v8 U =>
 (aF (some (true, 4)) v8 v24 U).wp K U (fun _ U =>
 (gM .not dW).wp K U (fun dB U =>
 aj K (aI dB false) (af (some 0) v3) (fun dO =>
 aj K (aI dB false) (af (some 0) dO) (fun v30 =>
 aj K (aI dB false) (aq aG v30 U) (fun v31 =>
 aj K (aI dB false) (bU (some false) v31) (fun iQ =>
 aj K (aI dB false) (aq aG v4 U) (fun fj =>
 aj K (aI dB false) (av .sub aL false iQ fj) (fun fQ =>
 aj K (aI dB false) (af (some 5) v7) (fun gj =>
 aj K (aI dB false) (aq aG gj U) (fun hC =>
 aj K (aI dB false) (aA.enter 122 [(.int .i64 1), fQ, hC]) (fun v37 =>
 aj K (aI dB false) (gM .not v37) (fun jl =>
 (bF dB (.bool true) jl).wp K U (fun ou U =>
 aj K (aI ou false) (af (some 0) v8) (fun lu =>
 aj K (aI ou false) (aq aG lu U) (fun nx =>
 aj K (aI ou false) (af (some 1) v7) (fun iz =>
 aj K (aI ou false) (aq aG iz U) (fun ov =>
 aj K (aI ou false) (av .neq aL true ov (.str w_)) (fun u9 =>
 aj K (aI ou false) (av .neq (BT.mk true false false none false) false nx u9) (fun v46 =>
 (bF ou (.bool true) v46).wp K U (fun ow U =>
 aj K (aI ow false) (af (some 0) v8) (fun v49 =>
 aj K (aI ow false) (aq aG v49 U) (fun qz =>
 aj K (aI ow false) (aA.val qz) (fun v51 =>
 aj K (aI v51 true) (af (some 1) v7) (fun wF =>
 aj K (aI v51 true) (aq aG wF U) (fun v53 =>
 aj K (aI v51 true) (aA.enter 208 [v53]) (fun rX =>
 aj K (aI v51 true) (gM .not rX) (fun pQ =>
 aj K (aI ow false) (bF v51 pQ (.bool false)) (fun rY =>
 (bF ow (.bool true) rY).wp K U (fun AJ U =>
 az AJ (
 (aF aG v6 (.bool false) U).wp K U (fun _ U =>
 bA aG v6 U fun r0 =>
 al R r0 U) (aa R)) (
 (af (some 2) v7).wp K U (fun Df U =>
 (aq aG Df U).wp K U (fun v59 U =>
 ae K 122 [(.int .i64 0), (.int .i64 1000000), v59] U (ar (fun K7 U =>
 (gM .not K7).wp K U (fun tN U =>
 aj K (aI tN false) (af (some 3) v7) (fun yz =>
 aj K (aI tN false) (aq aG yz U) (fun va =>
 aj K (aI tN false) (aA.enter 122 [(.int .i64 0), (.int .i64 1000000), va]) (fun Dg =>
 aj K (aI tN false) (gM .not Dg) (fun K9 =>
 (bF tN (.bool true) K9).wp K U (fun wG U =>
 aj K (aI wG false) (af (some 1) v8) (fun Dh =>
 aj K (aI wG false) (aq aG Dh U) (fun v70 =>
 aj K (aI wG false) (gM .not v70) (fun Uj =>
 aj K (aI wG false) (aA.val Uj) (fun v72 =>
 aj K (aI v72 true) (af (some 2) v7) (fun La =>
 aj K (aI v72 true) (aq aG La U) (fun wH =>
 aj K (aI v72 true) (av .neq aL true wH (.int .i64 0)) (fun v75 =>
 aj K (aI wG false) (bF v72 v75 (.bool false)) (fun v76 =>
 (bF wG (.bool true) v76).wp K U (fun AK U =>
 aj K (aI AK false) (af (some 2) v8) (fun v79 =>
 aj K (aI AK false) (aq aG v79 U) (fun v80 =>
 aj K (aI AK false) (gM .not v80) (fun Pb =>
 aj K (aI AK false) (aA.val Pb) (fun Pc =>
 aj K (aI Pc true) (af (some 3) v7) (fun Xy =>
 aj K (aI Pc true) (aq aG Xy U) (fun Uk =>
 aj K (aI Pc true) (av .neq aL true Uk (.int .i64 0)) (fun v85 =>
 aj K (aI AK false) (bF Pc v85 (.bool false)) (fun Ul =>
 (bF AK (.bool true) Ul).wp K U (fun v87 U =>
 az v87 (
 (aF aG v6 (.bool false) U).wp K U (fun _ U =>
 bA aG v6 U fun pM =>
 al R pM U) (aa R)) (
 (aA.cj [.ag]).wp K U (fun v10 U =>
 (aq aG v4 U).wp K U (fun v88 U =>
 (av .add aL true v88 (.int .i64 1)).wp K U (fun Um U =>
 (aA.cj [.int .i64 0]).wp K U (fun v11 U =>
 (aF aG v11 Um U).wp K U (fun _ U =>
 (aq (some (true, 1)) v3 U).wp K U (fun v90 U =>
 (aq aG v4 U).wp K U (fun v91 U =>
 ae K 81 [v90, v91] U (ar (fun v92 U =>
 rT K 1 v92 U (fun v93 q U =>
 q.EI (fun U =>
 (fun ay : St =>
 ai K (aq aG v10 ay) (fun Un =>
 ai K (af (some 0) v3) (fun Pd =>
 ai K (af (some 0) Pd) (fun Xz =>
 ai K (aq aG Xz ay) (fun Uo =>
 ai K (aP (some (43, 6)) none Uo v93) (fun v99 =>
 ai K (af (some 0) v99) (fun GX =>
 ai K (aq aG GX ay) (fun Na =>
 ai K (aH (some (5, 1)) (some [.int .u8 0]) 1 false [(0, Na)]) (fun YV =>
 (dS (some (5, 1)) false Un YV U).wp K U (fun GY U => bG ((bV GX ++ []) ++ ((bV Xz ++ []) ++ ((bV v10 ++ []) ++ []))) ay U /\
 (aF aG v10 GY U).wp K U (fun _ U =>
 (fun eg : St =>
 ai K (aq aG v4 eg) (fun Nb =>
 ai K (af (some 5) v7) (fun v105 =>
 ai K (aq aG v105 eg) (fun YW =>
 ai K (av .add aL false Nb YW) (fun v107 =>
 ai K (av .sub aL false v107 v93) (fun v109 =>
 ai K (af (some 0) v3) (fun Nc =>
 ai K (af (some 0) Nc) (fun Nf =>
 ai K (aq aG Nf eg) (fun Ng =>
 ai K (aP (some (43, 6)) none Ng v93) (fun YX =>
 ai K (af (some 5) YX) (fun Nh =>
 ai K (aq aG Nh eg) (fun Ni =>
 ai K (aA.enter 122 [(.int .i64 1), v109, Ni]) (fun v117 =>
 ai K (gM .not v117) (fun Nj =>
 az Nj (
 (aF aG v6 (.bool false) U).wp K U (fun _ U =>
 q.r U) (fun _ _ => False)) (
 (af (some 0) v3).wp K U (fun Nk U =>
 (af (some 0) Nk).wp K U (fun Nl U =>
 (aq aG Nl U).wp K U (fun Nn U =>
 (aP (some (43, 6)) none Nn v93).wp K U (fun v124 U =>
 (af (some 5) v124).wp K U (fun No U =>
 (aq aG No U).wp K U (fun Np U =>
 (av .add aL false v93 Np).wp K U (fun v127 U =>
 (aF aG v11 v127 U).wp K U (fun _ U =>
 q.n U) (fun _ _ => False)) (fun _ _ => False)) (fun _ _ => False)) (fun _ _ => False)) (fun _ _ => False)) (fun _ _ => False)) (fun _ _ => False)) (fun _ _ => False)))))))))))))))) U) (fun _ _ => False)) (fun _ _ => False)))))))))) U) U) (fun U =>
 (aq aG v11 U).wp K U (fun Nq U =>
 (aq aG v4 U).wp K U (fun Y0 U =>
 (af (some 5) v7).wp K U (fun v130 U =>
 (aq aG v130 U).wp K U (fun v131 U =>
 (av .add aL false Y0 v131).wp K U (fun Y1 U =>
 (av .eql aL false Nq Y1).wp K U (fun ra U =>
 aj K (aI ra true) (aq aG v10 U) (fun Nr =>
 aj K (aI ra true) (af (some 3) v8) (fun Y2 =>
 aj K (aI ra true) (aq aG Y2 U) (fun GZ =>
 az (aI ra true) (
 ae K 209 [Nr, GZ] U (ar (fun v138 U =>
 (bF ra v138 (.bool false)).wp K U (fun v139 U =>
 (aF aG v6 v139 U).wp K U (fun _ U =>
 bA aG v6 U fun sY =>
 al R sY U) (aa R)) (aa R)) (aa R))) (
 (bF ra (.aN []) (.bool false)).wp K U (fun TV U =>
 (aF aG v6 TV U).wp K U (fun _ U =>
 bA aG v6 U fun xf =>
 al R xf U) (aa R)) (aa R)))))) (aa R)) (aa R)) (aa R)) (aa R)) (aa R)) (aa R)) (fun i U =>
 HG (Nat.beq i 0) (
 (aq aG v11 U).wp K U (fun TL U =>
 (aq aG v4 U).wp K U (fun TM U =>
 (af (some 5) v7).wp K U (fun TN U =>
 (aq aG TN U).wp K U (fun TO U =>
 (av .add aL false TM TO).wp K U (fun TP U =>
 (av .eql aL false TL TP).wp K U (fun ot U =>
 aj K (aI ot true) (aq aG v10 U) (fun TR =>
 aj K (aI ot true) (af (some 3) v8) (fun TS =>
 aj K (aI ot true) (aq aG TS U) (fun TT =>
 az (aI ot true) (
 ae K 209 [TR, TT] U (ar (fun TU U =>
 (bF ot TU (.bool false)).wp K U (fun TW U =>
 (aF aG v6 TW U).wp K U (fun _ U =>
 bA aG v6 U fun Ms =>
 al R Ms U) (aa R)) (aa R)) (aa R))) (
 (bF ot (.aN []) (.bool false)).wp K U (fun TX U =>
 (aF aG v6 TX U).wp K U (fun _ U =>
 bA aG v6 U fun Mt =>
 al R Mt U) (aa R)) (aa R)))))) (aa R)) (aa R)) (aa R)) (aa R)) (aa R)) (aa R)) (
 False)) (fun U =>
 bA aG v6 U fun YF =>
 al R YF U) (fun x U => (aa R) x U)) (aa R))) (aa R)) (aa R)) (aa R)) (aa R)) (aa R)) (aa R)) (aa R))) (aa R)))))))))) (aa R)))))))))) (aa R)))))) (aa R)) (aa R))) (aa R)) (aa R))) (aa R)))))))))) (aa R)))))))) (aa R)))))))))))) (aa R)) (aa R)) (aa R)) (aa R)) (aa R)) (aa R)) (aa R)) (aa R)) (aa R)) (aa R)) (aa R)) (aa R)) (aa R)) (aa R)) (aa R)) (aa R)) (aa R)) (aa R)) (aa R)
def Ju : Prop :=
 ae K 210 [a0, a1] U (ar (fun v10 U =>
 (av .eql aL true v10 (.int .i64 (-1))).wp K U (fun v12 U =>
 az v12 (
 al R a0 U) (
 (av .add aL true v10 (.int .i64 1)).wp K U (fun c6 U =>
 dQ 4 [a0, a1, v10, c6] U fun lp v0 v1 v5 v6 U =>
 (bU (some false) v0).wp K U (fun ck U =>
 (av .lss aL false v6 ck).wp K U (fun di U =>
 az di (
 gC 4 (fun ni jK Ny re U =>
 (av .add aL true re (.int .i64 1)).wp K U (fun v21 U =>
 lp ni jK Ny v21 U) (aa R)) fun j =>
 (aP (some (3, 1)) none v0 v6).wp K U (fun v24 U =>
 (aq aG v24 U).wp K U (fun dW U =>
 (fo K.P v1 [dW]).wp K U (fun v28 U =>
 (gM .not v28).wp K U (fun dO U =>
 az dO (
 (aP (some (3, 1)) none v0 v5).wp K U (fun fj U =>
 (aF aG fj dW U).wp K U (fun _ U =>
 (av .add aL true v5 (.int .i64 1)).wp K U (fun gj U =>
 j v0 v1 gj v6 U) (aa R)) (aa R)) (aa R)) (
 j v0 v1 v5 v6 U)) (aa R)) (aa R)) (aa R)) (aa R)) (
 (dh false (some (3, 1)) v0 (some v5) none).wp K U (fun jl U =>
 (xz (some (3, 1)) (some [.int .i64 0]) jl U).wp K U (fun _ U =>
 (dh false (some (3, 1)) v0 none (some v5)).wp K U (fun lu U =>
 al R lu U) (aa R)) (aa R)) (aa R))) (aa R)) (aa R)) (aa R))) (aa R)) (aa R))
def Jw : Prop :=
 (aq aG a1 U).wp K U (fun v5 U =>
 (av .leq aL false a0 v5).wp K U (fun v6 U =>
 al R v6 U) (aa R)) (aa R)
def Jy : Prop :=
 (aH (some (178, 1)) (some [.int .i64 0]) 1 false [(0, (.int .i64 0))]).wp K U (fun v4 U =>
 ae K 151 [a0, v4] U (ar (fun v5 U =>
 (gM .not v5).wp K U (fun v6 U =>
 al R v6 U) (aa R)) (aa R))) (aa R)
def JA : Prop :=
 dQ 4 [a0, a1, a2, (.int .i64 0)] U fun lp v0 v1 v2 v4 U =>
 (aq aG v1 U).wp K U (fun v9 U =>
 (bU (some true) v9).wp K U (fun v10 U =>
 (av .lss aL false v4 v10).wp K U (fun v11 U =>
 az v11 (
 (aq aG v1 U).wp K U (fun v12 U =>
 (fD true none none v12 v4).wp K U (fun cL U =>
 gC 6 (fun ni jK kQ kg qy v24 U =>
 az v24 (
 (av .add aL true kg (.int .i64 1)).wp K U (fun v28 U =>
 lp ni jK kQ v28 U) (aa R)) (
 (av .eql aL true qy (.int .u8 126)).wp K U (fun v30 U =>
 az v30 (
 (aq aG jK U).wp K U (fun iQ U =>
 (dh true none iQ (some kg) none).wp K U (fun fQ U =>
 ae K 148 [fQ, (.str yA)] U (ar (fun gj U =>
 (aV gj 0).wp K U (fun hC U =>
 (aV gj 1).wp K U (fun v37 U =>
 (aV gj 2).wp K U (fun jl U =>
 (fo K.P ni [kg, hC]).wp K U (fun nx U =>
 (gM .not nx).wp K U (fun iz U =>
 az iz (
 al R (.aN []) U) (
 (bU (some true) hC).wp K U (fun v46 U =>
 (av .add aL false kg v46).wp K U (fun ow U =>
 lp ni jK kQ ow U) (aa R)) (aa R))) (aa R)) (aa R)) (aa R)) (aa R)) (aa R)) (aa R))) (aa R)) (aa R)) (
 (fo K.P ni [kg, (.str w_)]).wp K U (fun df U =>
 (gM .not df).wp K U (fun ck U =>
 az ck (
 al R (.aN []) U) (
 (aq aG kQ U).wp K U (fun v20 U =>
 (fo K.P v20 [kg]).wp K U (fun de U =>
 (av .add aL false kg de).wp K U (fun eu U =>
 lp ni jK kQ eu U) (aa R)) (aa R)) (aa R))) (aa R)) (aa R))) (aa R))) fun j =>
 (av .eql aL true cL (.int .u8 32)).wp K U (fun dW U =>
 az dW (
 j v0 v1 v2 v4 cL dW U) (
 (av .eql aL true cL (.int .u8 10)).wp K U (fun eY U =>
 j v0 v1 v2 v4 cL eY U) (aa R))) (aa R)) (aa R)) (aa R)) (
 al R (.aN []) U)) (aa R)) (aa R)) (aa R)
def Tm : Prop :=
 ae K 212 [a0, a1] U (ar (fun v9 U =>
 (aV v9 0).wp K U (fun v10 U =>
 (aV v9 1).wp K U (fun v11 U =>
 (aV v9 2).wp K U (fun v12 U =>
 al R (.aN [v10, v11, v12]) U) (aa R)) (aa R)) (aa R)) (aa R))
def JD : Prop :=
 dQ 2 [a0, (.int .i64 0)] U fun lp v0 v2 U =>
 (bU (some true) v0).wp K U (fun v5 U =>
 (av .lss aL false v2 v5).wp K U (fun v6 U =>
 aj K (aI v6 true) (aA.val v0) (fun v8 =>
 aj K (aI v6 true) (aA.val v2) (fun v9 =>
 aj K (aI v6 true) (fD true none none v8 v9) (fun v10 =>
 aj K (aI v6 true) (aH (some (178, 1)) (some [.int .i64 0]) 3 false [(0, (.int .i64 2)), (1, (.int .i64 3)), (2, (.int .i64 4))]) (fun v11 =>
 aj K (aI v6 true) (aA.enter 151 [v10, v11]) (fun v12 =>
 (bF v6 v12 (.bool false)).wp K U (fun cb U =>
 az cb (
 (av .add aL true v2 (.int .i64 1)).wp K U (fun c6 U =>
 lp v0 c6 U) (aa R)) (
 al R v2 U)) (aa R))))))) (aa R)) (aa R)
def JF : Prop :=
 (aA.cj [.int .u8 0, .str [], .int .i64 0]).wp K U (fun v2 U =>
 (dV none (some [.str [], .str []]) (some (2, 9, 1)) [(0, (.str cN)), (1, (.str iK))]).wp K U (fun v6 U =>
 dQ 4 [a0, v2, v6, (.int .i64 0)] U fun lp v0 kQ re v7 U =>
 (av .lss aL true v7 (.int .i64 2)).wp K U (fun v8 U =>
 az v8 (
 (fD false (some (2, 9, 1)) aG re v7).wp K U (fun v9 U =>
 ae K 213 [v0, v9] U (ar (fun v12 U =>
 az v12 (
 (dV (some [(0, 1), (1, 1), (2, 1)]) (some [.int .u8 0, .str [], .int .i64 0]) none [(0, (.int .u8 4)), (1, v9)]).wp K U (fun cL U =>
 (aF (some (true, 3)) kQ cL U).wp K U (fun _ U =>
 bA (some (true, 3)) kQ U fun r0 =>
 al R (.aN [r0, (.int .i64 0)]) U) (aa R)) (aa R)) (
 (av .add aL true v7 (.int .i64 1)).wp K U (fun c6 U =>
 lp v0 kQ re c6 U) (aa R))) (aa R))) (aa R)) (
 (av .eql aL true v0 (.str w_)).wp K U (fun df U =>
 aj K (aI df false) (aA.val v0) (fun di =>
 aj K (aI df false) (fD true none none di (.int .i64 0)) (fun v20 =>
 aj K (aI df false) (aA.enter 214 [(.str cS), v20]) (fun v21 =>
 aj K (aI df false) (av .lss aL true v21 (.int .i64 0)) (fun de =>
 (bF df (.bool true) de).wp K U (fun eu U =>
 az eu (
 (dV (some [(0, 1), (1, 1), (2, 1)]) (some [.int .u8 0, .str [], .int .i64 0]) none []).wp K U (fun v24 U =>
 (aF (some (true, 3)) kQ v24 U).wp K U (fun _ U =>
 bA (some (true, 3)) kQ U fun pM =>
 al R (.aN [pM, (.int .i64 4)]) U) (aa R)) (aa R)) (
 (dh true none v0 none (some (.int .i64 1))).wp K U (fun eY U =>
 (dV (some [(0, 1), (1, 1), (2, 1)]) (some [.int .u8 0, .str [], .int .i64 0]) none [(0, (.int .u8 4)), (1, eY)]).wp K U (fun dB U =>
 (aF (some (true, 3)) kQ dB U).wp K U (fun _ U =>
 bA (some (true, 3)) kQ U fun sY =>
 al R (.aN [sY, (.int .i64 0)]) U) (aa R)) (aa R)) (aa R))) (aa R)))))) (aa R))) (aa R)) (aa R)) (aa R)
def Tn : Prop :=
 ae K 216 [a0] U (ar (fun v7 U =>
 ae K 215 [a1, v7] U (ar (fun v8 U =>
 al R v8 U) (aa R))) (aa R))
def JI : Prop :=
 (bU (some true) a0).wp K U (fun v6 U =>
 dQ 4 [a0, (.int .i64 0), v6, (.int .i64 0)] U fun lp v0 v3 re v7 U =>
 (av .lss aL false v7 re).wp K U (fun v8 U =>
 az v8 (
 (fD true none none v0 v7).wp K U (fun v12 U =>
 (aH (some (178, 1)) (some [.int .i64 0]) 1 false [(0, (.int .i64 2))]).wp K U (fun cb U =>
 ae K 151 [v12, cb] U (ar (fun cL U =>
 (gM .not cL).wp K U (fun c6 U =>
 az c6 (
 al R (.int .i64 4) U) (
 (av .mul aL true (.int .i64 10) v3).wp K U (fun df U =>
 (fD true none none v0 v7).wp K U (fun v20 U =>
 (av .sub aL true v20 (.int .u8 48)).wp K U (fun v21 U =>
 (si (some .i64) true false false v21).wp K U (fun de U =>
 (av .add aL false df de).wp K U (fun eu U =>
 (uE eu (.int .i64 1000001)).wp K U (fun v24 U =>
 (av .add aL true v7 (.int .i64 1)).wp K U (fun dW U =>
 lp v0 v24 re dW U) (aa R)) (aa R)) (aa R)) (aa R)) (aa R)) (aa R)) (aa R))) (aa R)) (aa R))) (aa R)) (aa R)) (
 (bU (some true) v0).wp K U (fun v28 U =>
 (av .gtr aL true v28 (.int .i64 1)).wp K U (fun dO U =>
 aj K (aI dO true) (aA.val v0) (fun v31 =>
 aj K (aI dO true) (fD true none none v31 (.int .i64 0)) (fun iQ =>
 aj K (aI dO true) (av .eql aL true iQ (.int .u8 48)) (fun fj =>
 (bF dO fj (.bool false)).wp K U (fun fQ U =>
 az fQ (
 al R (.int .i64 4) U) (
 (av .gtr aL true v3 (.int .i64 1000000)).wp K U (fun v37 U =>
 az v37 (
 al R (.int .i64 3) U) (
 al R (.int .i64 0) U)) (aa R))) (aa R))))) (aa R)) (aa R))) (aa R)) (aa R)
def Ow : Prop :=
 (ez a0).wp K U (fun v1 U =>
 (af (some 0) v1).wp K U (fun v4 U =>
 (aq aG v4 U).wp K U (fun v5 U =>
 (bU (some false) v5).wp K U (fun v6 U =>
 (av .gtr aL true v6 (.int .i64 900)).wp K U (fun v7 U =>
 az v7 (
 al R (.int .i64 5) U) (
 (aq (some (true, 1)) v1 U).wp K U (fun v9 U =>
 (dV (some [(0, 1)]) (some [.ag]) none [(0, v9)]).wp K U (fun v10 U =>
 ae K 68 [v10] U (ar (fun v11 U =>
 (gM .not v11).wp K U (fun v12 U =>
 az v12 (
 al R (.int .i64 4) U) (
 (aq (some (true, 1)) v1 U).wp K U (fun cL U =>
 ae K 69 [cL] U (ar (fun c6 U =>
 az c6 (
 al R (.int .i64 5) U) (
 al R (.int .i64 0) U)) (aa R))) (aa R))) (aa R)) (aa R))) (aa R)) (aa R))) (aa R)) (aa R)) (aa R)) (aa R)) (aa R)
def Ox : Prop :=
 (ez a0).wp K U (fun v1 U =>
 (aA.cj [.ag]).wp K U (fun v2 U =>
 (aA.cj [.int .i64 0]).wp K U (fun v3 U =>
 (aA.cj [.int .i64 0]).wp K U (fun v4 U =>
 (aq aG v1 U).wp K U (fun cL U =>
 ae K 74 [cL] U (ar (fun c6 U =>
 (aV c6 0).wp K U (fun du U =>
 (aV c6 1).wp K U (fun df U =>
 (av .neq aL true df (.int .i64 0)).wp K U (fun di U =>
 az di (
 (aF aG v2 .ag U).wp K U (fun _ U =>
 (aF aG v3 du U).wp K U (fun _ U =>
 (aF aG v4 df U).wp K U (fun _ U =>
 bA aG v2 U fun r0 =>
 bA aG v3 U fun r1 =>
 bA aG v4 U fun r2 =>
 al R (.aN [r0, r1, r2]) U) (aa R)) (aa R)) (aa R)) (
 (aA.cj [.ag]).wp K U (fun v7 U =>
 (aq aG v1 U).wp K U (fun eu U =>
 ae K 76 [eu, (.func (.func 75) [] [v7])] U (ar (fun dW U =>
 rT K 2 dW U (fun eY dB q U =>
 q.EI (fun U =>
 (av .neq aL true dB (.str w_)).wp K U (fun dO U =>
 az dO (
 q.n U) (
 (aq aG v1 U).wp K U (fun v31 U =>
 (dh true none v31 (some eY) none).wp K U (fun fj U =>
 ae K 77 [fj] U (ar (fun fQ U =>
 (aV fQ 0).wp K U (fun gj U =>
 (aV fQ 1).wp K U (fun hC U =>
 (aA.cj [.int .u8 0, .str [], .int .i64 0]).wp K U (fun v11 U =>
 (aF (some (true, 3)) v11 gj U).wp K U (fun _ U =>
 gC 7 (fun kQ jm kg jL v9 tf v12 U =>
 (av .neq aL true v12 (.int .i64 0)).wp K U (fun u9 U =>
 az u9 (
 (aF aG kQ .ag U).wp K U (fun _ U =>
 (aF aG jm v9 U).wp K U (fun _ U =>
 (aF aG kg v12 U).wp K U (fun _ U =>
 q.r U) (fun _ _ => False)) (fun _ _ => False)) (fun _ _ => False)) (
 (af (some 2) tf).wp K U (fun v49 U =>
 (aF aG v49 v9 U).wp K U (fun _ U =>
 (aq aG jL U).wp K U (fun qz U =>
 (aq (some (true, 3)) tf U).wp K U (fun v51 U =>
 (aH (some (51, 3)) (some [.int .u8 0, .str [], .int .i64 0]) 1 false [(0, v51)]).wp K U (fun wF U =>
 (dS (some (51, 3)) false qz wF U).wp K U (fun v53 U =>
 (aF aG jL v53 U).wp K U (fun _ U =>
 q.n U) (fun _ _ => False)) (fun _ _ => False)) (fun _ _ => False)) (fun _ _ => False)) (fun _ _ => False)) (fun _ _ => False)) (fun _ _ => False))) (fun _ _ => False)) fun j =>
 (av .eql aL true hC (.int .i64 0)).wp K U (fun jl U =>
 aj K (aI jl true) (aq aG v7 U) (fun v40 =>
 aj K (aI jl true) (bU (some false) v40) (fun lu =>
 aj K (aI jl true) (av .eql aL true lu (.int .i64 900)) (fun nx =>
 (bF jl nx (.bool false)).wp K U (fun iz U =>
 az iz (
 j v2 v3 v4 v7 eY v11 (.int .i64 5) U) (
 j v2 v3 v4 v7 eY v11 hC U)) (fun _ _ => False))))) (fun _ _ => False)) (fun _ _ => False)) (fun _ _ => False)) (fun _ _ => False)) (fun _ _ => False)) (fun _ _ => False))) (fun _ _ => False)) (fun _ _ => False))) (fun _ _ => False)) U) (fun U =>
 (aq aG v7 U).wp K U (fun rX U =>
 (aF aG v2 rX U).wp K U (fun _ U =>
 (aF aG v3 (.int .i64 0) U).wp K U (fun _ U =>
 (aF aG v4 (.int .i64 0) U).wp K U (fun _ U =>
 bA aG v2 U fun pM =>
 bA aG v3 U fun YG =>
 bA aG v4 U fun YJ =>
 al R (.aN [pM, YG, YJ]) U) (aa R)) (aa R)) (aa R)) (aa R)) (fun i U =>
 HG (Nat.beq i 0) (
 (aq aG v7 U).wp K U (fun Wd U =>
 (aF aG v2 Wd U).wp K U (fun _ U =>
 (aF aG v3 (.int .i64 0) U).wp K U (fun _ U =>
 (aF aG v4 (.int .i64 0) U).wp K U (fun _ U =>
 bA aG v2 U fun sY =>
 bA aG v3 U fun YH =>
 bA aG v4 U fun YK =>
 al R (.aN [sY, YH, YK]) U) (aa R)) (aa R)) (aa R)) (aa R)) (
 False)) (fun U =>
 bA aG v2 U fun xf =>
 bA aG v3 U fun YI =>
 bA aG v4 U fun YL =>
 al R (.aN [xf, YI, YL]) U) (fun x U => (aa R) x U)) (aa R))) (aa R)) (aa R))) (aa R)) (aa R)) (aa R)) (aa R))) (aa R)) (aa R)) (aa R)) (aa R)) (aa R)
def Oy : Prop :=
 (ez a0).wp K U (fun v2 U =>
 (ez a1).wp K U (fun v3 U =>
 (aq (some (true, 1)) v2 U).wp K U (fun v6 U =>
 (aq aG v3 U).wp K U (fun v7 U =>
 ae K 91 [v6, v7, (.func (.func 92) [] [v3])] U (ar (fun v9 U =>
 (aV v9 0).wp K U (fun v10 U =>
 (aV v9 1).wp K U (fun v11 U =>
 al R (.aN [v10, v11]) U) (aa R)) (aa R)) (aa R))) (aa R)) (aa R)) (aa R)) (aa R)
def Oz : Prop :=
 (bU (some false) a0).wp K U (fun v7 U =>
 (bU (some false) a1).wp K U (fun v9 U =>
 (av .neq aL false v7 v9).wp K U (fun v10 U =>
 az v10 (
 al R (.bool false) U) (
 dQ 3 [a0, a1, (.int .i64 0)] U fun lp v0 v1 v5 U =>
 (bU (some false) v0).wp K U (fun cb U =>
 (av .lss aL false v5 cb).wp K U (fun cL U =>
 az cL (
 (fun ay : St =>
 ai K (aP (some (43, 6)) none v0 v5) (fun di =>
 ai K (aq (some (true, 6)) di ay) (fun v20 =>
 ai K (aP (some (43, 6)) none v1 v5) (fun eu =>
 ai K (aq (some (true, 6)) eu ay) (fun v24 =>
 ai K (av .neq (BT.mk false false false (some [.i, .s, .i, .i, .i, .i]) false) false v20 v24) (fun dW =>
 az dW (
 al R (.bool false) U) (
 (av .add aL true v5 (.int .i64 1)).wp K U (fun du U =>
 lp v0 v1 du U) (aa R)))))))) U) (
 al R (.bool true) U)) (aa R)) (aa R))) (aa R)) (aa R)) (aa R)
def OA : Prop :=
 (bU (some false) a0).wp K U (fun v5 U =>
 (av .gtr aL true v5 (.int .i64 1000)).wp K U (fun v6 U =>
 az v6 (
 al R (.bool false) U) (
 dQ 2 [a0, (.int .i64 0)] U fun lp v0 v3 U =>
 (bU (some false) v0).wp K U (fun v9 U =>
 (av .lss aL false v3 v9).wp K U (fun v10 U =>
 az v10 (
 (aP (some (43, 6)) none v0 v3).wp K U (fun c6 U =>
 (af (some 1) c6).wp K U (fun du U =>
 (aq aG du U).wp K U (fun df U =>
 (bU (some true) df).wp K U (fun ck U =>
 (av .gtr aL true ck (.int .i64 100)).wp K U (fun di U =>
 az di (
 al R (.bool false) U) (
 (av .add aL true v3 (.int .i64 1)).wp K U (fun v12 U =>
 lp v0 v12 U) (aa R))) (aa R)) (aa R)) (aa R)) (aa R)) (aa R)) (
 al R (.bool true) U)) (aa R)) (aa R))) (aa R)) (aa R)
def OB : Prop :=
 (ez a0).wp K U (fun v3 U =>
 (ez a1).wp K U (fun v4 U =>
 (ez a2).wp K U (fun v5 U =>
 (aA.cj [.ag]).wp K U (fun v6 U =>
 (aq (some (true, 1)) v3 U).wp K U (fun v8 U =>
 (aq aG v4 U).wp K U (fun v9 U =>
 ae K 87 [v8, v9, (.func (.func 94) [] [v4, v5])] U (ar (fun v11 U =>
 (aV v11 0).wp K U (fun v12 U =>
 (aV v11 1).wp K U (fun cb U =>
 (aF (some (true, 1)) v6 v12 U).wp K U (fun _ U =>
 bA (some (true, 1)) v6 U fun r0 =>
 al R (.aN [r0, cb]) U) (aa R)) (aa R)) (aa R)) (aa R))) (aa R)) (aa R)) (aa R)) (aa R)) (aa R)) (aa R)
def Ot : Prop :=
 (ez a0).wp K U (fun v2 U =>
 (ez a1).wp K U (fun v3 U =>
 (af (some 0) v2).wp K U (fun v5 U =>
 (aq aG v5 U).wp K U (fun v6 U =>
 (af (some 0) v3).wp K U (fun v7 U =>
 (aq aG v7 U).wp K U (fun v8 U =>
 ae K 47 [v6, v8] U (ar (fun v9 U =>
 al R v9 U) (aa R))) (aa R)) (aa R)) (aa R)) (aa R)) (aa R)) (aa R)
def Ou : Prop :=
 (ez a0).wp K U (fun v1 U =>
 (af (some 0) v1).wp K U (fun v3 U =>
 (aq aG v3 U).wp K U (fun v4 U =>
 ae K 49 [v4] U (ar (fun v5 U =>
 al R v5 U) (aa R))) (aa R)) (aa R)) (aa R)
def Ov : Prop :=
 (ez a0).wp K U (fun v1 U =>
 (aA.cj [.ag]).wp K U (fun v2 U =>
 (af (some 0) v1).wp K U (fun v3 U =>
 (aq aG v3 U).wp K U (fun v4 U =>
 (dS (some (43, 6)) true .ag v4 U).wp K U (fun v5 U =>
 (dV (some [(0, 1)]) (some [.ag]) none [(0, v5)]).wp K U (fun v6 U =>
 (aF (some (true, 1)) v2 v6 U).wp K U (fun _ U =>
 bA (some (true, 1)) v2 U fun r0 =>
 al R r0 U) (aa R)) (aa R)) (aa R)) (aa R)) (aa R)) (aa R)) (aa R)
end
section
variable {a0 a1 a2 a3 a4 a5 a6 : AV} {R : cu -> St -> Prop} {U : St}
theorem MH (h : OC a0 R U) : ae K 61 [a0] U R := bO Tryz.f61 UP h
theorem MI (h : OD a0 R U) : ae K 68 [a0] U R := bO Tryz.f68 UQ h
theorem MJ (h : OE a0 R U) : ae K 69 [a0] U R := bO Tryz.f69 UR h
theorem MK (h : OF a0 R U) : ae K 74 [a0] U R := bO Tryz.f74 US h
theorem ML (h : OG a0 a1 R U) : ae K 75 [a0, a1] U R := bO Tryz.f75 UT h
theorem MM (h : OH a0 a1 R U) : ae K 76 [a0, a1] U R := bO Tryz.f76 UU h
theorem MN (h : OI a0 R U) : ae K 77 [a0] U R := bO Tryz.f77 UW h
theorem MO (h : OJ a0 a1 R U) : ae K 81 [a0, a1] U R := bO Tryz.f81 UX h
theorem MP (h : OK a0 a1 R U) : ae K 85 [a0, a1] U R := bO Tryz.f85 UY h
theorem MQ (h : OL a0 a1 a2 R U) : ae K 87 [a0, a1, a2] U R := bO Tryz.f87 UZ h
theorem MR (h : OM a0 R U) : ae K 89 [a0] U R := bO Tryz.f89 U0 h
theorem MS (h : ON a0 a1 a2 R U) : ae K 91 [a0, a1, a2] U R := bO Tryz.f91 U1 h
theorem MT (h : OO a0 a1 R U) : ae K 92 [a0, a1] U R := bO Tryz.f92 U2 h
theorem MU (h : OP a0 a1 a2 R U) : ae K 94 [a0, a1, a2] U R := bO Tryz.f94 U3 h
theorem MV (h : OQ a0 R U) : ae K 95 [a0] U R := bO Tryz.f95 U4 h
theorem MW (h : VT a0 a1 R U) : ae K 99 [a0, a1] U R := bO Tryz.f99 U5 h
theorem Jg (h : Jf a0 a1 R U) : ae K 100 [a0, a1] U R := bO Tryz.f100 Qu h
theorem Jh (h : Ti a0 R U) : ae K 101 [a0] U R := bO Tryz.f101 Qv h
theorem Ji (h : Tj a0 a1 R U) : ae K 102 [a0, a1] U R := bO Tryz.f102 Qw h
theorem Jk (h : Jj a0 a1 R U) : ae K 103 [a0, a1] U R := bO Tryz.f103 Qy h
theorem Jl (h : Tl a0 a1 R U) : ae K 105 [a0, a1] U R := bO Tryz.f105 Qz h
theorem AD (h : C1 a0 a1 a2 R U) : ae K 106 [a0, a1, a2] U R := bO Tryz.f106 QA h
theorem Jn (h : Jm a0 R U) : ae K 109 [a0] U R := bO Tryz.f109 QB h
theorem Jp (h : Jo a0 a1 R U) : ae K 121 [a0, a1] U R := bO Tryz.f121 QC h
theorem Jr (h : Jq a0 a1 a2 R U) : ae K 122 [a0, a1, a2] U R := bO Tryz.f122 QD h
theorem Jt (h : Js a0 a1 a2 R U) : ae K 131 [a0, a1, a2] U R := bO Tryz.f131 QE h
theorem Jv (h : Ju a0 a1 R U) : ae K 132 [a0, a1] U R := bO Tryz.f132 QF h
theorem Jx (h : Jw a0 a1 R U) : ae K 133 [a0, a1] U R := bO Tryz.f133 QG h
theorem Jz (h : Jy a0 R U) : ae K 146 [a0] U R := bO Tryz.f146 QH h
theorem JB (h : JA a0 a1 a2 R U) : ae K 147 [a0, a1, a2] U R := bO Tryz.f147 QI h
theorem JC (h : Tm a0 a1 R U) : ae K 148 [a0, a1] U R := bO Tryz.f148 QJ h
theorem JE (h : JD a0 R U) : ae K 149 [a0] U R := bO Tryz.f149 QK h
theorem JG (h : JF a0 R U) : ae K 150 [a0] U R := bO Tryz.f150 QL h
theorem JH (h : Tn a0 a1 R U) : ae K 151 [a0, a1] U R := bO Tryz.f151 QM h
theorem JJ (h : JI a0 R U) : ae K 152 [a0] U R := bO Tryz.f152 QN h
theorem MB (h : Ow a0 R U) : ae K 30 [a0] U R := bO Tryz.f30 UJ h
theorem MC (h : Ox a0 R U) : ae K 33 [a0] U R := bO Tryz.f33 UK h
theorem MD (h : Oy a0 a1 R U) : ae K 44 [a0, a1] U R := bO Tryz.f44 UL h
theorem ME (h : Oz a0 a1 R U) : ae K 47 [a0, a1] U R := bO Tryz.f47 UM h
theorem MF (h : OA a0 R U) : ae K 49 [a0] U R := bO Tryz.f49 UN h
theorem MG (h : OB a0 a1 a2 R U) : ae K 50 [a0, a1, a2] U R := bO Tryz.f50 UO h
theorem My (h : Ot a0 a1 R U) : ae K 22 [a0, a1] U R := bO Tryz.f22 UG h
theorem Mz (h : Ou a0 R U) : ae K 24 [a0] U R := bO Tryz.f24 UH h
theorem MA (h : Ov a0 R U) : ae K 26 [a0] U R := bO Tryz.f26 UI h
end
end Go.Rip
