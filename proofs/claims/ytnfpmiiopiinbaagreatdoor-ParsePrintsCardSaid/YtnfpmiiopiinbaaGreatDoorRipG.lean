/- Lemmas for the proof: no conditions. -/
import Derived.Test.YtnfpmiiopiinbaaGreatDoorRipZz
import Derived.Test.YtnfpmiiopiinbaaGreatDoorRipD
set_option linter.unusedVariables false
set_option linter.unusedSimpArgs false
set_option linter.loopingSimpArgs false
set_option maxRecDepth 100000
namespace Go.Rip
open Go.Proofs
def X4:An:=ak (.bk (.lp [0,2,3,5] (aR (ak (.cd .z .z)) (aR (.bk (ak (.cd .z .z))) bu))))
def X5:An:=ak (ak (ak .z))
def X6:An:=ak (ak .z)
def X7:An:=ak (ak (aR (.bk (.lp [0,1,5] (aR (ak (.cd .z .z)) (.bk bu)))) (ak .z)))
def X8:An:=ak (ak (aR (.bk (aR (.rg [] [221] none) (.cd (aR (ak (.cd (ak .z) .z)) (aR (ak (.cd (ak .z) .z)) (ak .z))) (aR (.rg [] [224] none) (.cd (aR (ak (ak (.cd (ak .z) .z))) (ak .z)) .z))))) (ak (aR (ak (.bk (.lp [0,1,4,8,9] (aR (ak (.cd .z .z)) (aR (.bk (ak (.cd (ak .z) .z))) bu))))) (ak .z)))))
def X9:An:=ak (ak .z)
def Ya:An:=ak (ak (ak (.sq (some [0]) (ak (.cd (ak bu) (ak (ak (ak (ak (ak (ak bu)))))))) bu)))
def Yb:An:=ak (ak .z)
def Yc:An:=ak (.bk (ak (.cd (ak (ak (ak (ak bu)))) (ak (.cd bu (ak (.cd bu (ak bu))))))))
def Yd:An:=ak (aR (ak (.cd (ak (ak .z)) .z)) (ak (ak (.sq (some [0,2,4,6,7]) (ak (.cd bu .z)) (ak (aR (ak (.bk (.lp [0,2,4,6,42] (ak (aR (.cd .z .z) (.bk (ak (ak (.cd bu .z))))))))) (aR (ak (.cd (ak .z) .z)) bu)))))))
def Ye:An:=ak (ak (.bk (ak (.cd (ak (ak (.bk (.lp [0,18,19,20] (ak (aR (.cd .z .z) (aR (.bk (ak bu)) bu))))))) (ak (.cd bu (ak (.cd bu (ak (.cd bu (ak (.cd (ak (ak (ak (ak (ak (ak bu)))))) (ak (.cd (ak (ak bu)) (ak (.cd (ak bu) (ak (.cd (ak (ak (ak (ak bu)))) .z))))))))))))))))))
def Yf:An:=ak (ak .z)
def Yg:An:=ak (ak (.bk (ak (.cd bu (ak (.cd (ak bu) (ak (.cd (ak bu) (ak (.cd bu (ak (.cd (ak (ak (ak bu))) bu))))))))))))
def Yh:An:=ak (ak (.bk (ak (.cd (ak (ak bu)) (ak (.cd bu (ak (.cd (ak (ak (ak bu))) (ak (.cd (ak (ak (ak (ak (ak bu))))) .z))))))))))
def Yi:An:=ak (aR (ak (.cd (ak .z) .z)) (ak .z))
def Yj:An:=ak (ak (ak (ak .z)))
def Yk:An:=ak (ak .z)
def Yl:An:=ak (ak (aR (ak (.cd (ak (ak (ak .z))) .z)) (ak (.sq (some [0,4,5,6]) (ak (.cd bu .z)) (ak (ak (ak (ak (ak (ak (ak bu)))))))))))
def Ym:An:=ak bu
def Yn:An:=ak (ak (.bk (ak (.cd bu (ak (.cd bu (ak (.cd bu (ak (.cd bu (ak (ak (ak bu)))))))))))))
def Yo:An:=aR (ak (.cd (ak (ak (ak .z))) .z)) bu
def Yp:An:=ak (aR (ak (.bk (ak (.cd (ak .z) (.sq (some [3,6]) (ak (.cd .z (ak (.cd .z (ak (.cd .z (ak (.cd .z (ak (.cd .z (ak (.cd .z bu)))))))))))) (.cd (ak .z) (ak (.cd (ak .z) (ak (.cd (ak .z) (ak (.cd (ak .z) (.sq (some [3,20]) (ak (.cd .z bu)) (.cd (ak .z) (.sq (some [3,23]) (ak (.cd .z bu)) (.cd (ak .z) (ak (.cd (ak .z) (ak (.cd (ak .z) .z)))))))))))))))))))) (ak .z))
def Yq:An:=ak (ak (ak (.bk (ak (.cd (ak (ak (ak (ak (ak bu))))) (ak (.cd (ak bu) (ak (.cd (aR (.rg [] [] (some ⟨[(true,0),(true,1),(true,2),(true,3),(true,4),(true,5),(true,6),(true,7),(true,8),(true,9),(true,10),(true,11),(true,12),(true,13),(true,14),(false,15)],[⟨9007199254740992,1,0⟩,⟨18014398509481984,16,0⟩,⟨36028797018963968,18014398509481984,2⟩,⟨72057594037927936,36028797018963968,4⟩,⟨144115188075855872,72057594037927936,8⟩,⟨288230376151711744,16,0⟩,⟨576460752303423488,288230376151711744,32⟩,⟨1152921504606846976,576460752303423488,64⟩,⟨2305843009213693952,1297036692682702848,144⟩,⟨4611686018427387904,2305843009213693952,256⟩,⟨9223372036854775808,16,0⟩,⟨18446744073709551616,9223372036854775808,1024⟩,⟨36893488147419103232,18446744073709551616,2176⟩,⟨73786976294838206464,41505174165846491136,4608⟩,⟨147573952589676412928,73786976294838206464,8192⟩,⟨295147905179352825856,147582959788931153920,20481⟩]⟩)) bu) (ak (.cd (ak bu) (ak (.cd (aR (.rg [] [] (some ⟨[(true,0),(true,1),(true,2),(true,3),(true,4),(true,5),(true,6),(true,7),(true,8),(true,9),(false,10)],[⟨154742504910672534362390528,1,0⟩,⟨309485009821345068724781056,16,0⟩,⟨618970019642690137449562112,309485009821345068724781056,2⟩,⟨1237940039285380274899124224,618970019642690137449562112,4⟩,⟨2475880078570760549798248448,1237940039285380274899124224,8⟩,⟨4951760157141521099596496896,16,0⟩,⟨9903520314283042199192993792,4951760157141521099596496896,32⟩,⟨19807040628566084398385987584,9903520314283042199192993792,64⟩,⟨39614081257132168796771975168,22282920707136844948184236032,144⟩,⟨79228162514264337593543950336,39614081257132168796771975168,256⟩,⟨158456325028528675187087900672,79382905019175010127906340864,641⟩]⟩)) bu) (ak (.cd (ak bu) (ak (.cd (ak bu) .z)))))))))))))))))
def Yr:An:=ak (ak (ak (.bk (ak (.cd bu (ak (.cd bu (ak (.cd (ak bu) (ak (.cd bu (ak (.cd bu (ak (.cd bu (ak (.cd bu (ak (.cd bu (ak (.cd (ak bu) .z)))))))))))))))))))))
def Ys:An:=ak (ak (ak (.bk (ak (.cd bu (ak (.cd bu (ak (.cd bu (ak (.cd bu (ak (.cd bu (ak (.cd bu (ak (.cd bu (.sq (some [0,4,5,20,58]) (ak (.cd .z bu)) (.cd bu (ak (.cd (ak (ak bu)) (ak (.cd (ak (ak (ak bu))) (ak (.cd (ak (ak (aR (.rl [] ⟨[(true,0),(true,1),(true,2),(true,3),(true,4),(true,5),(true,6),(true,7),(true,8),(true,9),(true,10),(true,11),(true,12),(false,13)],[⟨162259276829213363391578010288128,1,0⟩,⟨324518553658426726783156020576256,1,0⟩,⟨649037107316853453566312041152512,324518553658426726783156020576256,2⟩,⟨1298074214633706907132624082305024,649037107316853453566312041152512,4⟩,⟨2596148429267413814265248164610048,1298074214633706907132624082305024,8⟩,⟨5192296858534827628530496329220096,32,0⟩,⟨10384593717069655257060992658440192,5192296858534827628530496329220096,32⟩,⟨20769187434139310514121985316880384,10384593717069655257060992658440192,64⟩,⟨41538374868278621028243970633760768,23365335863406724328387233481490432,144⟩,⟨83076749736557242056487941267521536,41538374868278621028243970633760768,256⟩,⟨166153499473114484112975882535043072,83076749736557242056487941267521536,512⟩,⟨332306998946228968225951765070086144,166153499473114484112975882535043072,1024⟩,⟨664613997892457936451903530140172288,332306998946228968225951765070086144,2048⟩,⟨1329227995784915872903807060280344576,664776257169287149815295108150460416,4097⟩]⟩) (ak bu)))) .z)))))))))))))))))))))))))
def Yt:An:=ak (aR (ak (.cd (ak .z) .z)) (aR (ak (.bk (.lp [0,3] (aR (ak (.cd .z .z)) (aR (.bk (ak (.cd (ak .z) .z))) bu))))) (ak .z)))
def Yu:An:=ak (ak .z)
def Yv:An:=ak (ak .z)
def Yw:An:=ak (ak .z)
def Yx:An:=ak (ak (ak .z))
def Yy:An:=ak (aR (ak (.bk (.lp [0,1,11,12,13] (ak (aR (.cd .z .z) (aR (.bk (ak (ak (aR (ak (.bk (.lp [0,1,6,7,11,12,13,21,22,23] (ak (aR (.cd .z .z) (aR (.bk (ak bu)) bu)))))) (ak (aR (.bk (.lp [0,1,6,7,10,11,12,13] (aR (.sq (some [0,1,6,7,10,11,12,13,52]) (.rg [] [] (some ⟨[(true,0),(true,1),(true,2),(true,3),(true,4),(true,5),(true,6),(true,7),(true,8),(true,9),(true,10),(true,11),(true,12),(true,13),(true,14),(true,15),(true,16),(true,17),(true,18),(false,19),(true,20)],[⟨4294967296,1024,0⟩,⟨8589934592,1,0⟩,⟨17179869184,8589934592,2⟩,⟨34359738368,128,0⟩,⟨68719476736,51539607552,12⟩,⟨137438953472,73014444032,17⟩,⟨274877906944,137438953472,32⟩,⟨549755813888,274877907968,64⟩,⟨1099511627776,274877907008,64⟩,⟨2199023255552,1374389534720,320⟩,⟨4398046511104,3023656976384,704⟩,⟨8796093022208,4672924418048,1088⟩,⟨17592186044416,8796093022208,2112⟩,⟨35184372088832,17592186044480,4096⟩,⟨70368744177664,52776558133248,12288⟩,⟨140737488355328,17592186044417,4096⟩,⟨281474976710656,17592186045440,4096⟩,⟨562949953421312,439804651110400,102400⟩,⟨1125899906842624,580542139465728,135168⟩,⟨2251799813685248,1213860837064704,282624⟩,⟨4503599627370496,2269391999729664,528384⟩]⟩)) (.cd .z .z)) (.bk bu)))) (aR (ak (.cd (ak .z) .z)) bu))))))) bu)))))) (ak .z))
def Yz:An:=ak (aR (ak (.bk (.lp [0,1,7,8] (ak (aR (.cd .z .z) (aR (.bk (ak (ak (.cd (ak .z) .z)))) bu)))))) (ak .z))
def YA:An:=ak (aR (ak (.cd (ak .z) .z)) (ak (ak .z)))
def YB:An:=ak (aR (ak (ak (.cd (aR (.rg [] [] (some ⟨[(true,0),(true,1),(true,2),(true,3),(true,4),(true,5),(true,6),(true,7),(true,8),(true,9),(true,10),(true,11)],[⟨8192,1,0⟩,⟨16384,128,0⟩,⟨32768,24576,3⟩,⟨65536,1,0⟩,⟨131072,128,0⟩,⟨262144,2,0⟩,⟨524288,262144,32⟩,⟨1048576,655360,80⟩,⟨2097152,1114112,136⟩,⟨16,32768,7⟩,⟨32,2097152,1023⟩,⟨64,0,2047⟩]⟩)) .z) .z))) (ak .z))
def YC:An:=ak (ak .z)
def YD:An:=ak (aR (.bk (ak (.cd (ak .z) (ak (.cd (ak .z) (ak (.cd (ak .z) (ak (.cd (ak .z) (ak (.cd (ak .z) .z))))))))))) (ak .z))
def YE:An:=ak (ak (aR (.bk (.lp [0,1,5] (aR (aR (.rg [] [224,254] none) (.cd .z .z)) (.bk bu)))) (ak .z)))
def YF:An:=ak (ak .z)
def YG:An:=ak (aR (ak (.bk (.lp [0,1,5] (aR (ak (.cd .z .z)) (aR (.bk (ak (.cd (ak .z) .z))) bu))))) (ak .z))
def YH:An:=ak (ak .z)
def YI:An:=ak (ak .z)
def YJ:An:=ak (ak (aR (ak (.bk (.lp [0,3,4] (aR (ak (.cd .z .z)) (aR (.bk (aR (ak (.cd (ak .z) .z)) bu)) bu))))) (aR (ak (.cd (ak .z) .z)) (ak .z))))
def YK:An:=ak (ak .z)
def YL:An:=ak (ak .z)
def YM:An:=ak (.bk (.lp [0,7,8,9] (ak (aR (.cd .z .z) (aR (.bk (ak (ak (.sq (some [0,5,6,7,8,9]) (ak (.cd bu .z)) bu)))) bu)))))
def YN:An:=bu
def YO:An:=ak (.bk (.lp [0,6,7,8] (ak (aR (.cd .z .z) (aR (.bk (ak (.sq (some [0,5,6,7,8]) (ak (.cd bu .z)) bu))) bu)))))
def YP:An:=.rg [] [] (some ⟨[(true,0),(true,1),(true,2),(true,3),(true,4),(true,5),(true,6),(true,7),(true,8),(false,9),(true,10),(true,11),(false,12)],[⟨16,1,0⟩,⟨32,1,0⟩,⟨64,32,2⟩,⟨128,64,4⟩,⟨256,128,8⟩,⟨512,2,0⟩,⟨1024,512,32⟩,⟨2048,1024,64⟩,⟨4096,2048,128⟩,⟨8192,4352,336⟩,⟨16384,16,1023⟩,⟨32768,16384,2047⟩,⟨0,40960,3071⟩]⟩)
def YQ:An:=aR (ak (.cd (ak .z) .z)) (ak (ak bu))
def YR:An:=ak (aR (ak (.bk (.lp [1,13] (ak (aR (.cd .z .z) (.bk (ak (ak (.bk (.lp [1,5,13,20] (ak (aR (.cd .z .z) (.bk (ak (ak (.cd (ak .z) .z)))))))))))))))) (aR (.bk (ak (.cd (ak .z) (ak (.cd (ak .z) (ak (.cd (ak .z) .z))))))) (ak .z)))
def YS:An:=ak (.bk (.lp [0,2,8,9,10] (ak (aR (.cd .z .z) (aR (.bk (ak (ak bu))) bu)))))
def YT:An:=ak (.bk (.lp [0,1,4] (aR (ak (.cd .z .z)) (aR (.bk (.sq (some [0,1,4]) (ak (.cd bu .z)) bu)) bu))))
def YU:An:=ak (aR (ak (.cd (ak .z) .z)) (ak .z))
def YV:An:=ak (ak (ak bu))
def YW:An:=ak (ak .z)
def YX:An:=ak (aR (ak (.bk (.lp [0,1,7,8] (ak (aR (.cd .z .z) (aR (.bk (ak (ak (.cd (ak .z) .z)))) bu)))))) (ak .z))
def YY:An:=ak (ak .z)
section
variable (a0 a1 a2 a3 a4 a5 a6:AV) (R:cO->St->Prop) (U:St)
def Ia:Prop :=
 (ah aD a1 U).wp K U (fun v6 U =>
 (ai .add av true v6 (.int .i64 1)).wp K U (fun v7 U =>
 di 4 [a0,a2,a3,v7] U fun lp v0 v2 v3 v5 U =>
 (ah aD v2 U).wp K U (fun v9 U =>
 (ai .lss av false v5 v9).wp K U (fun v10 U =>
 ad K (ar v10 true) (ae (some 0) v3) (fun v12 =>
 ad K (ar v10 true) (ae (some 0) v12) (fun bP =>
 ad K (ar v10 true) (ah aD bP U) (fun bK =>
 ad K (ar v10 true) (ay.val v5) (fun bj =>
 ad K (ar v10 true) (au (some (43,6)) none bK bj) (fun cA =>
 ad K (ar v10 true) (ae (some 5) cA) (fun bW =>
 ad K (ar v10 true) (ah aD bW U) (fun bY =>
 ad K (ar v10 true) (ai .gtr av true bY (.int .i64 0)) (fun bS =>
 (aO v10 bS (.bool false)).wp K U (fun v20 U =>
 ao v20 (
 (jW K.P v0 [v5]).wp K U (fun et U =>
 (hY .not et).wp K U (fun dJ U =>
 ao dJ (
 aj R (.aG []) U) (
 (ae (some 0) v3).wp K U (fun cw U =>
 (ae (some 0) cw).wp K U (fun dp U =>
 (ah aD dp U).wp K U (fun v24 U =>
 (au (some (43,6)) none v24 v5).wp K U (fun er U =>
 (ae (some 5) er).wp K U (fun dq U =>
 (ah aD dq U).wp K U (fun v28 U =>
 (ai .add av false v5 v28).wp K U (fun cJ U =>
 lp v0 v2 v3 cJ U) (aa R)) (aa R)) (aa R)) (aa R)) (aa R)) (aa R)) (aa R))) (aa R)) (aa R)) (
 aj R (.aG []) U)) (aa R)))))))))) (aa R)) (aa R)) (aa R)) (aa R)
def Qc:Prop :=
 (eO a0).wp K U (fun v1 U =>
 (ae (some 1) v1).wp K U (fun v6 U =>
 (ah aD v6 U).wp K U (fun v7 U =>
 ag K 77 [v7] U (aq (fun v8 U =>
 (aV v8 0).wp K U (fun v9 U =>
 (aV v8 1).wp K U (fun v10 U =>
 (ay.db [.int .u8 0,.str [],.int .i64 0]).wp K U (fun v3 U =>
 (aU (some (true,3)) v3 v9 U).wp K U (fun _ U =>
 (ai .eql av true v10 (.int .i64 0)).wp K U (fun v12 U =>
 ad K (ar v12 true) (ae (some 0) v3) (fun bK =>
 ad K (ar v12 true) (ah aD bK U) (fun bj =>
 ad K (ar v12 true) (ae (some 0) v1) (fun cA =>
 ad K (ar v12 true) (ah aD cA U) (fun bW =>
 ad K (ar v12 true) (ai .eql av false bj bW) (fun bY =>
 (aO v12 bY (.bool false)).wp K U (fun bS U =>
 ad K (ar bS true) (ae (some 1) v3) (fun v21 =>
 ad K (ar bS true) (ah aD v21 U) (fun cw =>
 ad K (ar bS true) (ae (some 1) v1) (fun dp =>
 ad K (ar bS true) (ah aD dp U) (fun v24 =>
 ad K (ar bS true) (ai .eql av false cw v24) (fun dE =>
 (aO bS dE (.bool false)).wp K U (fun er U =>
 aj R er U) (aa R))))))) (aa R))))))) (aa R)) (aa R)) (aa R)) (aa R)) (aa R)) (aa R))) (aa R)) (aa R)) (aa R)
def Qe:Prop :=
 (ai .eql av true a0 (.int .u8 10)).wp K U (fun v4 U =>
 ad K (ar v4 false) (ay.val a0) (fun v6 =>
 ad K (ar v4 false) (ai .geq av true v6 (.int .u8 32)) (fun v7 =>
 ad K (ar v4 false) (ay.val v7) (fun v8 =>
 ad K (ar v8 true) (ay.val a0) (fun v9 =>
 ad K (ar v8 true) (ai .leq av true v9 (.int .u8 126)) (fun v10 =>
 ad K (ar v4 false) (aO v8 v10 (.bool false)) (fun v11 =>
 (aO v4 (.bool true) v11).wp K U (fun v12 U =>
 aj R v12 U) (aa R)))))))) (aa R)
def Qg:Prop :=
 di 3 [a0,a1,a1] U fun lp v0 v1 v5 U =>
 (br (some true) v0).wp K U (fun v9 U =>
 (ai .lss av false v5 v9).wp K U (fun v10 U =>
 ad K (ar v10 true) (ay.val v0) (fun v12 =>
 ad K (ar v10 true) (ay.val v5) (fun bP =>
 ad K (ar v10 true) (eh true none none v12 bP) (fun bK =>
 ad K (ar v10 true) (ai .neq av true bK (.int .u8 10)) (fun bj =>
 (aO v10 bj (.bool false)).wp K U (fun cA U =>
 ao cA (
 (ai .add av true v5 (.int .i64 1)).wp K U (fun bY U =>
 lp v0 v1 bY U) (aa R)) (
 (dt true none v0 (some v1) (some v5)).wp K U (fun cw U =>
 aj R cw U) (aa R))) (aa R)))))) (aa R)) (aa R)
def Qi:Prop :=
 (ay.db [.int .u8 0,.str [],.int .i64 0]).wp K U (fun v4 U =>
 ag K 220 [a0,a1] U (aq (fun v12 U =>
 (ai .neq av true v12 (.str w_)).wp K U (fun bj U =>
 ad K (ar bj true) (ay.val v12) (fun bW =>
 ad K (ar bj true) (eh true none none bW (.int .i64 0)) (fun bY =>
 ad K (ar bj true) (ay.enter 221 [bY]) (fun bS =>
 (aO bj bS (.bool false)).wp K U (fun v20 U =>
 ao v20 (
 ag K 223 [] U (aq (fun v21 U =>
 ag K 222 [v21,v12] U (aq (fun dp U =>
 ao dp (
 (ee (some [(0,1),(1,1),(2,1)]) (some [.int .u8 0,.str [],.int .i64 0]) none [(0,(.int .u8 3)),(1,v12),(2,a1)]).wp K U (fun er U =>
 (aU (some (true,3)) v4 er U).wp K U (fun _ U =>
 bF (some (true,3)) v4 U fun r0 =>
 aj R (.aG [r0,(.int .i64 0)]) U) (aa R)) (aa R)) (
 (br (some true) v12).wp K U (fun v28 U =>
 (ai .gtr av true v28 (.int .i64 12)).wp K U (fun cJ U =>
 ao cJ (
 (ee (some [(0,1),(1,1),(2,1)]) (some [.int .u8 0,.str [],.int .i64 0]) none []).wp K U (fun v30 U =>
 (aU (some (true,3)) v4 v30 U).wp K U (fun _ U =>
 bF (some (true,3)) v4 U fun qT =>
 aj R (.aG [qT,(.int .i64 4)]) U) (aa R)) (aa R)) (
 (ee (some [(0,1),(1,1),(2,1)]) (some [.int .u8 0,.str [],.int .i64 0]) none [(0,(.int .u8 1)),(1,v12),(2,a1)]).wp K U (fun dJ U =>
 (aU (some (true,3)) v4 dJ U).wp K U (fun _ U =>
 bF (some (true,3)) v4 U fun qU =>
 aj R (.aG [qU,(.int .i64 0)]) U) (aa R)) (aa R))) (aa R)) (aa R))) (aa R))) (aa R))) (
 (ai .neq av true v12 (.str w_)).wp K U (fun fH U =>
 ad K (ar fH true) (ay.val v12) (fun gL =>
 ad K (ar fH true) (eh true none none gL (.int .i64 0)) (fun gS =>
 ad K (ar fH true) (ay.enter 224 [gS]) (fun v40 =>
 (aO fH v40 (.bool false)).wp K U (fun eY U =>
 ao eY (
 ag K 225 [v12] U (aq (fun eI U =>
 (ai .neq av true eI (.int .i64 0)).wp K U (fun gn U =>
 ao gn (
 (ee (some [(0,1),(1,1),(2,1)]) (some [.int .u8 0,.str [],.int .i64 0]) none []).wp K U (fun v46 U =>
 (aU (some (true,3)) v4 v46 U).wp K U (fun _ U =>
 bF (some (true,3)) v4 U fun xE =>
 aj R (.aG [xE,eI]) U) (aa R)) (aa R)) (
 (ee (some [(0,1),(1,1),(2,1)]) (some [.int .u8 0,.str [],.int .i64 0]) none [(0,(.int .u8 2)),(1,v12),(2,a1)]).wp K U (fun fJ U =>
 (aU (some (true,3)) v4 fJ U).wp K U (fun _ U =>
 bF (some (true,3)) v4 U fun BK =>
 aj R (.aG [BK,(.int .i64 0)]) U) (aa R)) (aa R))) (aa R)) (aa R))) (
 ag K 226 [] U (aq (fun v51 U =>
 di 5 [a0,a1,v4,v51,(.int .i64 0)] U fun lp v0 v1 eC v8 v9 U =>
 (br (some false) v8).wp K U (fun gi U =>
 (ai .lss av false v9 gi).wp K U (fun gU U =>
 ao gU (
 (au (some (9,1)) none v8 v9).wp K U (fun lC U =>
 (ah aD lC U).wp K U (fun je U =>
 ag K 227 [v0,v1,je] U (aq (fun nV U =>
 ao nV (
 (au (some (9,1)) none v8 v9).wp K U (fun nX U =>
 (ah aD nX U).wp K U (fun j0 U =>
 (ee (some [(0,1),(1,1),(2,1)]) (some [.int .u8 0,.str [],.int .i64 0]) none [(0,(.int .u8 4)),(1,j0),(2,v1)]).wp K U (fun v70 U =>
 (aU (some (true,3)) eC v70 U).wp K U (fun _ U =>
 bF (some (true,3)) eC U fun xF =>
 aj R (.aG [xF,(.int .i64 0)]) U) (aa R)) (aa R)) (aa R)) (aa R)) (
 (ai .add av true v9 (.int .i64 1)).wp K U (fun iv U =>
 lp v0 v1 eC v8 iv U) (aa R))) (aa R))) (aa R)) (aa R)) (
 (ee (some [(0,1),(1,1),(2,1)]) (some [.int .u8 0,.str [],.int .i64 0]) none []).wp K U (fun mA U =>
 (aU (some (true,3)) eC mA U).wp K U (fun _ U =>
 bF (some (true,3)) eC U fun HX =>
 aj R (.aG [HX,(.int .i64 4)]) U) (aa R)) (aa R))) (aa R)) (aa R)) (aa R)))) (aa R))))) (aa R))) (aa R))))) (aa R)) (aa R))) (aa R)
def Qk:Prop :=
 (ai .geq av true a0 (.int .u8 2)).wp K U (fun v4 U =>
 ad K (ar v4 true) (ay.val a0) (fun v6 =>
 ad K (ar v4 true) (ai .leq av true v6 (.int .u8 4)) (fun v7 =>
 (aO v4 v7 (.bool false)).wp K U (fun v8 U =>
 aj R v8 U) (aa R)))) (aa R)
def Qm:Prop :=
 (eO a1).wp K U (fun v4 U =>
 (ay.xl).wp K U (fun v8 U =>
 (gh (some (.i,9)) v8 (.int .u8 2) (.str fC) U).wp K U (fun _ U =>
 (gh (some (.i,9)) v8 (.int .u8 3) (.str j9) U).wp K U (fun _ U =>
 (gh (some (.i,9)) v8 (.int .u8 4) (.str gO) U).wp K U (fun _ U =>
 (ae (some 0) v4).wp K U (fun v10 U =>
 (ah aD v10 U).wp K U (fun v11 U =>
 (gI (some (.i,9)) (some (.str [])) v8 v11 false U).wp K U (fun v12 U =>
 (aJ (some (9,1)) (some [.str []]) 1 false [(0,v12)]).wp K U (fun bP U =>
 ag K 231 [a0,bP] U (aq (fun bK U =>
 (ae (some 1) v4).wp K U (fun cA U =>
 (ah aD cA U).wp K U (fun bW U =>
 ag K 232 [a0,bW] U (aq (fun bY U =>
 gR 1 (fun v0 U =>
 (aJ (some (9,1)) (some [.str []]) 1 false [(0,(.str dO))]).wp K U (fun ju U =>
 ag K 231 [v0,ju] U (aq (fun lC U =>
 aj R (.aG []) U) (aa R))) (aa R)) fun j =>
 (ae (some 0) v4).wp K U (fun bS U =>
 (ah aD bS U).wp K U (fun v20 U =>
 (ai .eql av true v20 (.int .u8 2)).wp K U (fun v21 U =>
 ao v21 (
 (aJ (some (9,1)) (some [.str []]) 1 false [(0,(.str eD))]).wp K U (fun dp U =>
 ag K 231 [a0,dp] U (aq (fun v24 U =>
 (au (some (3,1)) none a2 (.int .i64 0)).wp K U (fun dq U =>
 (ah aD dq U).wp K U (fun v28 U =>
 ag K 123 [a0,v28] U (aq (fun cJ U =>
 j a0 U) (aa R))) (aa R)) (aa R)) (aa R))) (aa R)) (
 (br (some false) a2).wp K U (fun v31 U =>
 (ai .sub av true v31 (.int .i64 2)).wp K U (fun et U =>
 (aJ (some (9,1)) (some [.str []]) 1 false [(0,(.str ek))]).wp K U (fun fG U =>
 ag K 231 [a0,fG] U (aq (fun eN U =>
 (dt false (some (3,1)) a2 none (some et)).wp K U (fun gS U =>
 ag K 233 [a0,gS] U (aq (fun v40 U =>
 (aJ (some (9,1)) (some [.str []]) 2 false [(0,(.str eV)),(1,(.str eD))]).wp K U (fun iu U =>
 ag K 231 [a0,iu] U (aq (fun eI U =>
 (au (some (3,1)) none a2 et).wp K U (fun iL U =>
 (ah aD iL U).wp K U (fun hZ U =>
 ag K 123 [a0,hZ] U (aq (fun v49 U =>
 (aJ (some (9,1)) (some [.str []]) 1 false [(0,(.str iJ))]).wp K U (fun v51 U =>
 ag K 231 [a0,v51] U (aq (fun gT U =>
 (ai .add av true et (.int .i64 1)).wp K U (fun iM U =>
 (au (some (3,1)) none a2 iM).wp K U (fun iv U =>
 (ah aD iv U).wp K U (fun iG U =>
 ag K 123 [a0,iG] U (aq (fun v59 U =>
 j a0 U) (aa R))) (aa R)) (aa R)) (aa R)) (aa R))) (aa R)) (aa R))) (aa R)) (aa R)) (aa R))) (aa R)) (aa R))) (aa R)) (aa R))) (aa R)) (aa R)) (aa R))) (aa R)) (aa R)) (aa R)) (aa R))) (aa R)) (aa R)) (aa R))) (aa R)) (aa R)) (aa R)) (aa R)) (aa R)) (aa R)) (aa R)) (aa R)) (aa R)
def Qo:Prop :=
 ag K 206 [a0] U (aq (fun v4 U =>
 ad K (ar v4 false) (ay.val a0) (fun v6 =>
 ad K (ar v4 false) (ai .eql av true v6 (.int .u8 8)) (fun v7 =>
 (aO v4 (.bool true) v7).wp K U (fun v8 U =>
 aj R v8 U) (aa R)))) (aa R))
def Ib:Prop :=
 (eO a1).wp K U (fun v4 U =>
 (ae (some 0) v4).wp K U (fun v20 U =>
 (ah aD v20 U).wp K U (fun v21 U =>
 (ai .eql av true v21 (.int .u8 8)).wp K U (fun cw U =>
 ao cw (
 (br (some false) a2).wp K U (fun v24 U =>
 (ai .sub av true v24 (.int .i64 1)).wp K U (fun dE U =>
 (aJ (some (9,1)) (some [.str []]) 1 false [(0,(.str ek))]).wp K U (fun dq U =>
 ag K 231 [a0,dq] U (aq (fun v28 U =>
 (dt false (some (3,1)) a2 none (some dE)).wp K U (fun et U =>
 ag K 233 [a0,et] U (aq (fun dJ U =>
 (aJ (some (9,1)) (some [.str []]) 2 false [(0,(.str eV)),(1,(.str gd))]).wp K U (fun eN U =>
 ag K 231 [a0,eN] U (aq (fun fH U =>
 (au (some (3,1)) none a2 dE).wp K U (fun v40 U =>
 (ah aD v40 U).wp K U (fun eY U =>
 ag K 123 [a0,eY] U (aq (fun iu U =>
 aj R (.aG []) U) (aa R))) (aa R)) (aa R)) (aa R))) (aa R)) (aa R))) (aa R)) (aa R))) (aa R)) (aa R)) (aa R)) (
 (ae (some 0) v4).wp K U (fun jZ U =>
 (ah aD jZ U).wp K U (fun gn U =>
 (ai .eql av true gn (.int .u8 6)).wp K U (fun v46 U =>
 ad K (ar v46 true) (ae (some 2) v4) (fun hZ =>
 ad K (ar v46 true) (ah aD hZ U) (fun v49 =>
 ad K (ar v46 true) (ai .eql av true v49 (.int .i64 1)) (fun fJ =>
 (aO v46 fJ (.bool false)).wp K U (fun v51 U =>
 ao v51 (
 (aJ (some (9,1)) (some [.str []]) 1 false [(0,(.str xY))]).wp K U (fun v53 U =>
 ag K 231 [a0,v53] U (aq (fun gi U =>
 aj R (.aG []) U) (aa R))) (aa R)) (
 (ae (some 0) v4).wp K U (fun iM U =>
 (ah aD iM U).wp K U (fun iv U =>
 (ai .eql av true iv (.int .u8 6)).wp K U (fun iG U =>
 ad K (ar iG true) (ae (some 2) v4) (fun mz =>
 ad K (ar iG true) (ah aD mz U) (fun ju =>
 ad K (ar iG true) (ai .eql av true ju (.int .i64 2)) (fun lC =>
 (aO iG lC (.bool false)).wp K U (fun je U =>
 ao je (
 (aJ (some (9,1)) (some [.str []]) 1 false [(0,(.str tZ))]).wp K U (fun lD U =>
 ag K 231 [a0,lD] U (aq (fun nW U =>
 aj R (.aG []) U) (aa R))) (aa R)) (
 (ay.xl).wp K U (fun v8 U =>
 (gh (some (.i,9)) v8 (.int .u8 6) (.str kU) U).wp K U (fun _ U =>
 (gh (some (.i,9)) v8 (.int .u8 7) (.str kM) U).wp K U (fun _ U =>
 (ae (some 0) v4).wp K U (fun v10 U =>
 (ah aD v10 U).wp K U (fun v11 U =>
 (gI (some (.i,9)) (some (.str [])) v8 v11 false U).wp K U (fun v12 U =>
 (aJ (some (9,1)) (some [.str []]) 1 false [(0,v12)]).wp K U (fun bP U =>
 ag K 231 [a0,bP] U (aq (fun bK U =>
 (ae (some 2) v4).wp K U (fun cA U =>
 (ah aD cA U).wp K U (fun bW U =>
 ag K 234 [a0,bW] U (aq (fun bY U =>
 aj R (.aG []) U) (aa R))) (aa R)) (aa R)) (aa R))) (aa R)) (aa R)) (aa R)) (aa R)) (aa R)) (aa R)) (aa R))) (aa R))))) (aa R)) (aa R)) (aa R))) (aa R))))) (aa R)) (aa R)) (aa R))) (aa R)) (aa R)) (aa R)) (aa R)
def Ic:Prop :=
 (eO a1).wp K U (fun v4 U =>
 (ae (some 0) v4).wp K U (fun v10 U =>
 (ah aD v10 U).wp K U (fun v11 U =>
 (ai .eql av true v11 (.int .u8 19)).wp K U (fun v12 U =>
 ao v12 (
 (aJ (some (9,1)) (some [.str []]) 1 false [(0,(.str s0))]).wp K U (fun bK U =>
 ag K 231 [a0,bK] U (aq (fun bj U =>
 (au (some (3,1)) none a2 (.int .i64 0)).wp K U (fun bY U =>
 (ah aD bY U).wp K U (fun bS U =>
 ag K 235 [a0,bS,(.int .i64 4)] U (aq (fun v20 U =>
 aj R (.aG []) U) (aa R))) (aa R)) (aa R)) (aa R))) (aa R)) (
 (ae (some 0) v4).wp K U (fun cw U =>
 (ah aD cw U).wp K U (fun dp U =>
 ag K 236 [a0,dp] U (aq (fun v24 U =>
 gR 5 (fun v0 v2 eC v6 v7 U =>
 (au (some (3,1)) none v2 (.int .i64 0)).wp K U (fun et U =>
 (ah aD et U).wp K U (fun dJ U =>
 ag K 235 [v0,dJ,v7] U (aq (fun eN U =>
 (bR v0).wp K U (fun v37 U =>
 (ae (some 2) v37).wp K U (fun gL U =>
 (ah aD gL U).wp K U (fun gS U =>
 (gI (some (.i,185)) (some .lr) gS v6 false U).wp K U (fun eY U =>
 (tT (some (.s,5)) eY).wp K U (fun iu U =>
 di 5 [v0,v2,eC,v6,iu] U fun lp fm lN ME jV AB U =>
 (ry AB U).wp K U (fun eI U =>
 (aV eI 0).wp K U (fun jZ U =>
 ao jZ (
 (mf AB U).wp K U (fun gn U =>
 (aV gn 0).wp K U (fun v46 U =>
 (aV gn 1).wp K U (fun iL U =>
 (ae (some 0) ME).wp K U (fun v49 U =>
 (ah aD v49 U).wp K U (fun fJ U =>
 (ai .eql av false iL fJ).wp K U (fun v51 U =>
 ao v51 (
 (aJ (some (9,1)) (some [.str []]) 1 false [(0,v46)]).wp K U (fun gi U =>
 ag K 231 [fm,gi] U (aq (fun gU U =>
 lp fm lN ME jV AB U) (aa R))) (aa R)) (
 lp fm lN ME jV AB U)) (aa R)) (aa R)) (aa R)) (aa R)) (aa R)) (aa R)) (
 (ai .eql av true jV (.int .i64 8)).wp K U (fun iv U =>
 ao iv (
 (ae (some 2) ME).wp K U (fun v59 U =>
 (ah aD v59 U).wp K U (fun mz U =>
 ag K 234 [fm,mz] U (aq (fun ju U =>
 aj R (.aG []) U) (aa R))) (aa R)) (aa R)) (
 (au (some (3,1)) none lN (.int .i64 1)).wp K U (fun nV U =>
 (ah aD nV U).wp K U (fun lD U =>
 (ai .add av true jV (.int .i64 1)).wp K U (fun nX U =>
 ag K 235 [fm,lD,nX] U (aq (fun j0 U =>
 aj R (.aG []) U) (aa R))) (aa R)) (aa R)) (aa R))) (aa R))) (aa R)) (aa R)) (aa R)) (aa R)) (aa R)) (aa R)) (aa R)) (aa R))) (aa R)) (aa R)) fun j =>
 (ai .eql av true v24 (.int .i64 5)).wp K U (fun dq U =>
 ao dq (
 (ai .add av true v24 (.int .i64 1)).wp K U (fun cJ U =>
 j a0 a2 v4 v24 cJ U) (aa R)) (
 j a0 a2 v4 v24 v24 U)) (aa R)) (aa R))) (aa R)) (aa R))) (aa R)) (aa R)) (aa R)) (aa R)
def rX:Prop :=
 (eO a1).wp K U (fun v4 U =>
 (ae (some 0) v4).wp K U (fun v8 U =>
 (ah aD v8 U).wp K U (fun v9 U =>
 (ai .eql av true v9 (.int .u8 9)).wp K U (fun v11 U =>
 ao v11 (
 (au (some (3,1)) none a2 (.int .i64 0)).wp K U (fun bK U =>
 (ah aD bK U).wp K U (fun bj U =>
 ag K 235 [a0,bj,(.int .i64 1)] U (aq (fun cA U =>
 (dt false (some (3,1)) a2 (some (.int .i64 1)) none).wp K U (fun bY U =>
 (br (some false) bY).wp K U (fun bS U =>
 di 4 [a0,bY,bS,(.int .i64 0)] U fun lp v0 VZ V4 v20 U =>
 (ai .lss av false v20 V4).wp K U (fun v21 U =>
 ao v21 (
 (au (some (3,1)) none VZ v20).wp K U (fun cw U =>
 (ah aD cw U).wp K U (fun dp U =>
 (aJ (some (3,1)) (some [.int .i64 0]) 1 false [(0,dp)]).wp K U (fun er U =>
 (aJ (some (9,1)) (some [.str []]) 1 false [(0,(.str dO))]).wp K U (fun dq U =>
 ag K 237 [v0,er,dq] U (aq (fun v28 U =>
 (ai .add av true v20 (.int .i64 1)).wp K U (fun cJ U =>
 lp v0 VZ V4 cJ U) (aa R)) (aa R))) (aa R)) (aa R)) (aa R)) (aa R)) (
 aj R (.aG []) U)) (aa R)) (aa R)) (aa R)) (aa R))) (aa R)) (aa R)) (
 (ai .eql av true v9 (.int .u8 10)).wp K U (fun v31 U =>
 ao v31 (
 (aJ (some (9,1)) (some [.str []]) 3 false [(0,(.str x6)),(1,(.str sb)),(2,(.str ia))]).wp K U (fun fG U =>
 ag K 237 [a0,a2,fG] U (aq (fun eN U =>
 aj R (.aG []) U) (aa R))) (aa R)) (
 (ai .eql av true v9 (.int .u8 11)).wp K U (fun v37 U =>
 ao v37 (
 (aJ (some (9,1)) (some [.str []]) 2 false [(0,(.str nH)),(1,(.str xZ))]).wp K U (fun v40 U =>
 ag K 237 [a0,a2,v40] U (aq (fun eY U =>
 aj R (.aG []) U) (aa R))) (aa R)) (
 (ai .eql av true v9 (.int .u8 15)).wp K U (fun eI U =>
 ao eI (
 (aJ (some (9,1)) (some [.str []]) 2 false [(0,(.str lP)),(1,(.str ia))]).wp K U (fun v46 U =>
 ag K 237 [a0,a2,v46] U (aq (fun iL U =>
 aj R (.aG []) U) (aa R))) (aa R)) (
 (ai .eql av true v9 (.int .u8 12)).wp K U (fun v49 U =>
 ao v49 (
 (aJ (some (9,1)) (some [.str []]) 1 false [(0,(.str rI))]).wp K U (fun v51 U =>
 ag K 231 [a0,v51] U (aq (fun gT U =>
 (ae (some 1) v4).wp K U (fun gi U =>
 (ah aD gi U).wp K U (fun gU U =>
 ag K 232 [a0,gU] U (aq (fun iM U =>
 (aJ (some (9,1)) (some [.str []]) 1 false [(0,(.str eD))]).wp K U (fun iG U =>
 ag K 231 [a0,iG] U (aq (fun v59 U =>
 (ae (some 2) v4).wp K U (fun ju U =>
 (ah aD ju U).wp K U (fun lC U =>
 ag K 234 [a0,lC] U (aq (fun je U =>
 (aJ (some (9,1)) (some [.str []]) 1 false [(0,(.str cR))]).wp K U (fun lD U =>
 ag K 231 [a0,lD] U (aq (fun nW U =>
 (ae (some 3) v4).wp K U (fun j0 U =>
 (ah aD j0 U).wp K U (fun p6 U =>
 ag K 234 [a0,p6] U (aq (fun v70 U =>
 (aJ (some (9,1)) (some [.str []]) 1 false [(0,(.str kN))]).wp K U (fun pn U =>
 ag K 237 [a0,a2,pn] U (aq (fun oT U =>
 aj R (.aG []) U) (aa R))) (aa R)) (aa R))) (aa R)) (aa R)) (aa R))) (aa R)) (aa R))) (aa R)) (aa R)) (aa R))) (aa R)) (aa R))) (aa R)) (aa R)) (aa R))) (aa R)) (
 (ai .eql av true v9 (.int .u8 13)).wp K U (fun v76 U =>
 ao v76 (
 (aJ (some (9,1)) (some [.str []]) 1 false [(0,(.str nF))]).wp K U (fun sa U =>
 ag K 231 [a0,sa] U (aq (fun yq U =>
 (ae (some 1) v4).wp K U (fun Dl U =>
 (ah aD Dl U).wp K U (fun zX U =>
 ag K 232 [a0,zX] U (aq (fun Dm U =>
 (aJ (some (9,1)) (some [.str []]) 2 false [(0,(.str kN)),(1,(.str ia))]).wp K U (fun yr U =>
 ag K 237 [a0,a2,yr] U (aq (fun v87 U =>
 aj R (.aG []) U) (aa R))) (aa R)) (aa R))) (aa R)) (aa R)) (aa R))) (aa R)) (
 (ai .eql av true v9 (.int .u8 16)).wp K U (fun FI U =>
 ao FI (
 (ae (some 1) v4).wp K U (fun v91 U =>
 (ah aD v91 U).wp K U (fun FJ U =>
 ag K 232 [a0,FJ] U (aq (fun v93 U =>
 (aJ (some (9,1)) (some [.str []]) 1 false [(0,(.str cR))]).wp K U (fun zY U =>
 ag K 237 [a0,a2,zY] U (aq (fun IK U =>
 aj R (.aG []) U) (aa R))) (aa R)) (aa R))) (aa R)) (aa R)) (
 (ai .eql av true v9 (.int .u8 14)).wp K U (fun RV U =>
 ao RV (
 (aJ (some (9,1)) (some [.str []]) 1 false [(0,(.str lQ))]).wp K U (fun D8 U =>
 ag K 231 [a0,D8] U (aq (fun IC U =>
 (ae (some 1) v4).wp K U (fun xQ U =>
 (ah aD xQ U).wp K U (fun v105 U =>
 ag K 232 [a0,v105] U (aq (fun D9 U =>
 (aJ (some (9,1)) (some [.str []]) 1 false [(0,(.str cR))]).wp K U (fun ID U =>
 ag K 231 [a0,ID] U (aq (fun v109 U =>
 (ae (some 2) v4).wp K U (fun xR U =>
 (ah aD xR U).wp K U (fun IF U =>
 ag K 234 [a0,IF] U (aq (fun MA U =>
 (aJ (some (9,1)) (some [.str []]) 1 false [(0,(.str kN))]).wp K U (fun q9 U =>
 ag K 237 [a0,a2,q9] U (aq (fun v117 U =>
 aj R (.aG []) U) (aa R))) (aa R)) (aa R))) (aa R)) (aa R)) (aa R))) (aa R)) (aa R))) (aa R)) (aa R)) (aa R))) (aa R)) (
 aj R (.aG []) U)) (aa R))) (aa R))) (aa R))) (aa R))) (aa R))) (aa R))) (aa R))) (aa R)) (aa R)) (aa R)) (aa R)
def Qq:Prop :=
 (ai .geq av true a0 (.int .u8 9)).wp K U (fun v4 U =>
 ad K (ar v4 true) (ay.val a0) (fun v6 =>
 ad K (ar v4 true) (ai .leq av true v6 (.int .u8 34)) (fun v7 =>
 (aO v4 v7 (.bool false)).wp K U (fun v8 U =>
 aj R v8 U) (aa R)))) (aa R)
def tU:Prop :=
 (eO a1).wp K U (fun v4 U =>
 (ae (some 0) v4).wp K U (fun v6 U =>
 (ah aD v6 U).wp K U (fun v7 U =>
 (ai .eql av true v7 (.int .u8 26)).wp K U (fun bW U =>
 ao bW (
 (ae (some 2) v4).wp K U (fun bS U =>
 (ah aD bS U).wp K U (fun v20 U =>
 ag K 234 [a0,v20] U (aq (fun v21 U =>
 aj R (.aG []) U) (aa R))) (aa R)) (aa R)) (
 (ai .eql av true v7 (.int .u8 31)).wp K U (fun dp U =>
 ao dp (
 (aJ (some (9,1)) (some [.str []]) 1 false [(0,(.str qD))]).wp K U (fun dE U =>
 ag K 231 [a0,dE] U (aq (fun er U =>
 (ae (some 1) v4).wp K U (fun v28 U =>
 (ah aD v28 U).wp K U (fun cJ U =>
 ag K 232 [a0,cJ] U (aq (fun v30 U =>
 aj R (.aG []) U) (aa R))) (aa R)) (aa R)) (aa R))) (aa R)) (
 (ai .eql av true v7 (.int .u8 32)).wp K U (fun et U =>
 ao et (
 (aJ (some (9,1)) (some [.str []]) 1 false [(0,(.str qz))]).wp K U (fun fG U =>
 ag K 231 [a0,fG] U (aq (fun eN U =>
 (ae (some 1) v4).wp K U (fun v37 U =>
 (ah aD v37 U).wp K U (fun gL U =>
 ag K 232 [a0,gL] U (aq (fun gS U =>
 aj R (.aG []) U) (aa R))) (aa R)) (aa R)) (aa R))) (aa R)) (
 (ai .eql av true v7 (.int .u8 33)).wp K U (fun eY U =>
 ao eY (
 (ae (some 1) v4).wp K U (fun eI U =>
 (ah aD eI U).wp K U (fun jZ U =>
 ag K 232 [a0,jZ] U (aq (fun gn U =>
 aj R (.aG []) U) (aa R))) (aa R)) (aa R)) (
 (ai .eql av true v7 (.int .u8 34)).wp K U (fun iL U =>
 ao iL (
 (ae (some 1) v4).wp K U (fun v49 U =>
 (ah aD v49 U).wp K U (fun fJ U =>
 ag K 232 [a0,fJ] U (aq (fun v51 U =>
 (aJ (some (9,1)) (some [.str []]) 1 false [(0,(.str ek))]).wp K U (fun v53 U =>
 ag K 231 [a0,v53] U (aq (fun gi U =>
 ag K 233 [a0,a2] U (aq (fun iv U =>
 (aJ (some (9,1)) (some [.str []]) 1 false [(0,(.str eV))]).wp K U (fun v59 U =>
 ag K 231 [a0,v59] U (aq (fun mz U =>
 aj R (.aG []) U) (aa R))) (aa R)) (aa R))) (aa R))) (aa R)) (aa R))) (aa R)) (aa R)) (
 (ay.xl).wp K U (fun v9 U =>
 (gh (some (.i,9)) v9 (.int .u8 27) (.str gz) U).wp K U (fun _ U =>
 (gh (some (.i,9)) v9 (.int .u8 28) (.str gp) U).wp K U (fun _ U =>
 (gh (some (.i,9)) v9 (.int .u8 29) (.str jM) U).wp K U (fun _ U =>
 (gh (some (.i,9)) v9 (.int .u8 30) (.str lE) U).wp K U (fun _ U =>
 (ae (some 0) v4).wp K U (fun v11 U =>
 (ah aD v11 U).wp K U (fun v12 U =>
 (gI (some (.i,9)) (some (.str [])) v9 v12 false U).wp K U (fun bP U =>
 (aJ (some (9,1)) (some [.str []]) 1 false [(0,bP)]).wp K U (fun bK U =>
 ag K 231 [a0,bK] U (aq (fun bj U =>
 aj R (.aG []) U) (aa R))) (aa R)) (aa R)) (aa R)) (aa R)) (aa R)) (aa R)) (aa R)) (aa R)) (aa R))) (aa R))) (aa R))) (aa R))) (aa R))) (aa R)) (aa R)) (aa R)) (aa R)
def zQ:Prop :=
 (eO a1).wp K U (fun v4 U =>
 (ae (some 0) v4).wp K U (fun v7 U =>
 (ah aD v7 U).wp K U (fun v8 U =>
 (ai .eql av true v8 (.int .u8 5)).wp K U (fun v10 U =>
 ao v10 (
 (ae (some 1) v4).wp K U (fun v12 U =>
 (ah aD v12 U).wp K U (fun bP U =>
 ag K 232 [a0,bP] U (aq (fun bK U =>
 (aJ (some (9,1)) (some [.str []]) 1 false [(0,(.str eD))]).wp K U (fun cA U =>
 ag K 231 [a0,cA] U (aq (fun bW U =>
 (au (some (3,1)) none a2 (.int .i64 0)).wp K U (fun v20 U =>
 (ah aD v20 U).wp K U (fun v21 U =>
 ag K 123 [a0,v21] U (aq (fun cw U =>
 aj R (.aG []) U) (aa R))) (aa R)) (aa R)) (aa R))) (aa R)) (aa R))) (aa R)) (aa R)) (
 (ai .eql av true v8 (.int .u8 37)).wp K U (fun v24 U =>
 ao v24 (
 (ae (some 1) v4).wp K U (fun er U =>
 (ah aD er U).wp K U (fun dq U =>
 ag K 232 [a0,dq] U (aq (fun v28 U =>
 aj R (.aG []) U) (aa R))) (aa R)) (aa R)) (
 (ai .eql av true v8 (.int .u8 35)).wp K U (fun v30 U =>
 ao v30 (
 (br (some false) a2).wp K U (fun et U =>
 (ai .sub av true et (.int .i64 1)).wp K U (fun dJ U =>
 (aJ (some (9,1)) (some [.str []]) 2 false [(0,(.str x5)),(1,(.str ek))]).wp K U (fun eN U =>
 ag K 231 [a0,eN] U (aq (fun fH U =>
 (dt false (some (3,1)) a2 none (some dJ)).wp K U (fun v40 U =>
 ag K 233 [a0,v40] U (aq (fun eY U =>
 (dt false (some (3,1)) a2 (some dJ) none).wp K U (fun gn U =>
 (aJ (some (9,1)) (some [.str []]) 1 false [(0,(.str eV))]).wp K U (fun v46 U =>
 ag K 237 [a0,gn,v46] U (aq (fun iL U =>
 aj R (.aG []) U) (aa R))) (aa R)) (aa R)) (aa R))) (aa R)) (aa R))) (aa R)) (aa R)) (aa R)) (
 (ai .eql av true v8 (.int .u8 36)).wp K U (fun v49 U =>
 ao v49 (
 (aJ (some (9,1)) (some [.str []]) 1 false [(0,(.str qB))]).wp K U (fun v51 U =>
 ag K 231 [a0,v51] U (aq (fun gT U =>
 (dt false (some (3,1)) a2 none (some (.int .i64 1))).wp K U (fun gU U =>
 (aJ (some (9,1)) (some [.str []]) 1 false [(0,(.str uO))]).wp K U (fun iM U =>
 ag K 237 [a0,gU,iM] U (aq (fun iv U =>
 (aJ (some (9,1)) (some [.str []]) 2 false [(0,(.str dO)),(1,(.str s8))]).wp K U (fun v59 U =>
 ag K 231 [a0,v59] U (aq (fun mz U =>
 (au (some (3,1)) none a2 (.int .i64 1)).wp K U (fun je U =>
 (ah aD je U).wp K U (fun nV U =>
 ag K 123 [a0,nV] U (aq (fun lD U =>
 (dt false (some (3,1)) a2 (some (.int .i64 2)) none).wp K U (fun j0 U =>
 (aJ (some (9,1)) (some [.str []]) 1 false [(0,(.str rE))]).wp K U (fun p6 U =>
 ag K 237 [a0,j0,p6] U (aq (fun v70 U =>
 (aJ (some (9,1)) (some [.str []]) 1 false [(0,(.str rG))]).wp K U (fun v72 U =>
 ag K 231 [a0,v72] U (aq (fun pn U =>
 aj R (.aG []) U) (aa R))) (aa R)) (aa R))) (aa R)) (aa R)) (aa R))) (aa R)) (aa R)) (aa R))) (aa R)) (aa R))) (aa R)) (aa R)) (aa R))) (aa R)) (
 aj R (.aG []) U)) (aa R))) (aa R))) (aa R))) (aa R)) (aa R)) (aa R)) (aa R)
def Qt:Prop :=
 (eO a0).wp K U (fun v2 U =>
 (eO a1).wp K U (fun v3 U =>
 (ae (some 0) v2).wp K U (fun v5 U =>
 (ah aD v5 U).wp K U (fun v6 U =>
 (ai .neq av true v6 (.int .u8 4)).wp K U (fun v7 U =>
 ad K (ar v7 true) (ae (some 0) v3) (fun v9 =>
 ad K (ar v7 true) (ah aD v9 U) (fun v10 =>
 ad K (ar v7 true) (ai .neq av true v10 (.int .u8 4)) (fun v11 =>
 (aO v7 v11 (.bool false)).wp K U (fun v12 U =>
 ao v12 (
 aj R (.bool true) U) (
 (ae (some 1) v2).wp K U (fun bP U =>
 (ah aD bP U).wp K U (fun bK U =>
 (ai .eql av true bK (.str eD)).wp K U (fun bj U =>
 ad K (ar bj true) (ae (some 1) v3) (fun bW =>
 ad K (ar bj true) (ah aD bW U) (fun bY =>
 ad K (ar bj true) (ai .eql av true bY (.str iJ)) (fun bS =>
 (aO bj bS (.bool false)).wp K U (fun v20 U =>
 aj R v20 U) (aa R))))) (aa R)) (aa R)) (aa R))) (aa R))))) (aa R)) (aa R)) (aa R)) (aa R)) (aa R)
def Qv:Prop :=
 ag K 190 [a0] U (aq (fun v6 U =>
 (bR a0).wp K U (fun v9 U =>
 (ae (some 1) v9).wp K U (fun v10 U =>
 (ah aD v10 U).wp K U (fun v11 U =>
 (aJ (some (5,1)) (some [.int .u8 0]) 1 false [(0,a1)]).wp K U (fun bP U =>
 (eu (some (5,1)) false v11 bP U).wp K U (fun bK U =>
 (bR a0).wp K U (fun bj U =>
 (ae (some 1) bj).wp K U (fun cA U =>
 (aU aD cA bK U).wp K U (fun _ U =>
 aj R .dv U) (aa R)) (aa R)) (aa R)) (aa R)) (aa R)) (aa R)) (aa R)) (aa R)) (aa R))
def Qy:Prop :=
 (ai .geq av true a0 (.int .u8 2)).wp K U (fun v4 U =>
 ad K (ar v4 true) (ay.val a0) (fun v6 =>
 ad K (ar v4 true) (ai .leq av true v6 (.int .u8 4)) (fun v7 =>
 (aO v4 v7 (.bool false)).wp K U (fun v8 U =>
 aj R v8 U) (aa R)))) (aa R)
def Ie:Prop :=
 (bR a0).wp K U (fun v9 U =>
 (ae (some 0) v9).wp K U (fun v10 U =>
 (ah aD v10 U).wp K U (fun v11 U =>
 (au (some (43,6)) none v11 a1).wp K U (fun bP U =>
 (ah (some (true,6)) bP U).wp K U (fun bK U =>
 (ay.db [.int .u8 0,.str [],.int .i64 0,.int .i64 0,.int .i64 0,.int .i64 0]).wp K U (fun v4 U =>
 (aU (some (true,6)) v4 bK U).wp K U (fun _ U =>
 (bR a0).wp K U (fun cA U =>
 (ae (some 0) cA).wp K U (fun bW U =>
 (ah aD bW U).wp K U (fun bY U =>
 ag K 67 [bY,a1] U (aq (fun v20 U =>
 (ae (some 0) v4).wp K U (fun v21 U =>
 (ah aD v21 U).wp K U (fun cw U =>
 (ai .eql av true cw (.int .u8 2)).wp K U (fun dp U =>
 ao dp (
 (ae (some 1) v4).wp K U (fun dE U =>
 (ah aD dE U).wp K U (fun er U =>
 (ai .add av true (.str rH) er).wp K U (fun dq U =>
 (ai .add av true dq (.str re)).wp K U (fun v28 U =>
 ag K 193 [a0,v28] U (aq (fun cJ U =>
 (au (some (3,1)) none v20 (.int .i64 0)).wp K U (fun et U =>
 (ah aD et U).wp K U (fun dJ U =>
 ag K 194 [a0,dJ] U (aq (fun fG U =>
 ag K 193 [a0,(.str dO)] U (aq (fun fH U =>
 aj R (.aG []) U) (aa R))) (aa R))) (aa R)) (aa R)) (aa R))) (aa R)) (aa R)) (aa R)) (aa R)) (
 gR 4 (fun v0 eC v5 v6 U =>
 (br (some false) v5).wp K U (fun eY U =>
 (ae (some 1) eC).wp K U (fun jZ U =>
 (ah aD jZ U).wp K U (fun gn U =>
 (ai .add av false v6 gn).wp K U (fun v46 U =>
 (ai .add av true v46 (.str oz)).wp K U (fun iL U =>
 ag K 193 [v0,iL] U (aq (fun hZ U =>
 (ai .sub av true eY (.int .i64 2)).wp K U (fun gT U =>
 (dt false (some (3,1)) v5 none (some gT)).wp K U (fun v53 U =>
 ag K 239 [v0,v53] U (aq (fun gi U =>
 ag K 193 [v0,(.str JN)] U (aq (fun iM U =>
 (ai .sub av true eY (.int .i64 2)).wp K U (fun mz U =>
 (au (some (3,1)) none v5 mz).wp K U (fun ju U =>
 (ah aD ju U).wp K U (fun lC U =>
 ag K 194 [v0,lC] U (aq (fun je U =>
 ag K 193 [v0,(.str iJ)] U (aq (fun lD U =>
 (ai .sub av true eY (.int .i64 1)).wp K U (fun p6 U =>
 (au (some (3,1)) none v5 p6).wp K U (fun v70 U =>
 (ah aD v70 U).wp K U (fun mA U =>
 ag K 195 [v0,mA,(.int .i64 0)] U (aq (fun v72 U =>
 ag K 193 [v0,(.str dO)] U (aq (fun oT U =>
 aj R (.aG []) U) (aa R))) (aa R))) (aa R)) (aa R)) (aa R)) (aa R))) (aa R))) (aa R)) (aa R)) (aa R)) (aa R))) (aa R))) (aa R)) (aa R)) (aa R))) (aa R)) (aa R)) (aa R)) (aa R)) (aa R)) fun j =>
 (ae (some 0) v4).wp K U (fun v37 U =>
 (ah aD v37 U).wp K U (fun gL U =>
 (ai .eql av true gL (.int .u8 4)).wp K U (fun gS U =>
 ao gS (
 j a0 v4 v20 (.str vr) U) (
 j a0 v4 v20 (.str B1) U)) (aa R)) (aa R)) (aa R))) (aa R)) (aa R)) (aa R)) (aa R))) (aa R)) (aa R)) (aa R)) (aa R)) (aa R)) (aa R)) (aa R)) (aa R)) (aa R)) (aa R)
def QA:Prop :=
 ag K 57 [a1] U (aq (fun v9 U =>
 (aV v9 0).wp K U (fun v10 U =>
 (aV v9 1).wp K U (fun v11 U =>
 (aV v9 2).wp K U (fun v12 U =>
 (bR a0).wp K U (fun bj U =>
 (ae (some 1) bj).wp K U (fun cA U =>
 (ah aD cA U).wp K U (fun bW U =>
 (eu (some (51,3)) false bW v10 U).wp K U (fun bS U =>
 (bR a0).wp K U (fun v20 U =>
 (ae (some 1) v20).wp K U (fun v21 U =>
 (aU aD v21 bS U).wp K U (fun _ U =>
 aj R (.aG []) U) (aa R)) (aa R)) (aa R)) (aa R)) (aa R)) (aa R)) (aa R)) (aa R)) (aa R)) (aa R)) (aa R))
def Ig:Prop :=
 (bR a0).wp K U (fun v7 U =>
 (ae (some 0) v7).wp K U (fun v8 U =>
 (ah aD v8 U).wp K U (fun v9 U =>
 (au (some (43,6)) none v9 a1).wp K U (fun v11 U =>
 (ah (some (true,6)) v11 U).wp K U (fun v12 U =>
 (ay.db [.int .u8 0,.str [],.int .i64 0,.int .i64 0,.int .i64 0,.int .i64 0]).wp K U (fun v4 U =>
 (aU (some (true,6)) v4 v12 U).wp K U (fun _ U =>
 (bR a0).wp K U (fun bK U =>
 (ae (some 0) bK).wp K U (fun bj U =>
 (ah aD bj U).wp K U (fun cA U =>
 ag K 67 [cA,a1] U (aq (fun bY U =>
 (ae (some 0) v4).wp K U (fun gS U =>
 (ah aD gS U).wp K U (fun v40 U =>
 (ai .eql av true v40 (.int .u8 6)).wp K U (fun eY U =>
 ad K (ar eY true) (ae (some 2) v4) (fun eI =>
 ad K (ar eY true) (ah aD eI U) (fun jZ =>
 ad K (ar eY true) (ai .eql av true jZ (.int .i64 1)) (fun gn =>
 (aO eY gn (.bool false)).wp K U (fun v46 U =>
 ao v46 (
 ag K 193 [a0,(.str xY)] U (aq (fun hZ U =>
 aj R (.aG []) U) (aa R))) (
 (ae (some 0) v4).wp K U (fun fJ U =>
 (ah aD fJ U).wp K U (fun v51 U =>
 (ai .eql av true v51 (.int .u8 6)).wp K U (fun gT U =>
 ad K (ar gT true) (ae (some 2) v4) (fun gi =>
 ad K (ar gT true) (ah aD gi U) (fun gU =>
 ad K (ar gT true) (ai .eql av true gU (.int .i64 2)) (fun iM =>
 (aO gT iM (.bool false)).wp K U (fun iv U =>
 ao iv (
 ag K 193 [a0,(.str tZ)] U (aq (fun v59 U =>
 aj R (.aG []) U) (aa R))) (
 (ae (some 0) v4).wp K U (fun ju U =>
 (ah aD ju U).wp K U (fun lC U =>
 (ai .eql av true lC (.int .u8 6)).wp K U (fun je U =>
 ao je (
 (ae (some 2) v4).wp K U (fun lD U =>
 (ah aD lD U).wp K U (fun nW U =>
 ag K 240 [nW] U (aq (fun nX U =>
 (ai .add av true (.str B2) nX).wp K U (fun j0 U =>
 ag K 193 [a0,j0] U (aq (fun p6 U =>
 aj R (.aG []) U) (aa R))) (aa R)) (aa R))) (aa R)) (aa R)) (
 (ae (some 0) v4).wp K U (fun mA U =>
 (ah aD mA U).wp K U (fun v72 U =>
 (ai .eql av true v72 (.int .u8 7)).wp K U (fun pn U =>
 ao pn (
 (ae (some 2) v4).wp K U (fun v75 U =>
 (ah aD v75 U).wp K U (fun v76 U =>
 ag K 240 [v76] U (aq (fun sL U =>
 (ai .add av true (.str z8) sL).wp K U (fun sa U =>
 ag K 193 [a0,sa] U (aq (fun yq U =>
 aj R (.aG []) U) (aa R))) (aa R)) (aa R))) (aa R)) (aa R)) (
 ag K 193 [a0,(.str ek)] U (aq (fun v20 U =>
 (br (some false) bY).wp K U (fun v24 U =>
 (ai .sub av true v24 (.int .i64 1)).wp K U (fun dE U =>
 (dt false (some (3,1)) bY none (some dE)).wp K U (fun er U =>
 ag K 239 [a0,er] U (aq (fun dq U =>
 ag K 193 [a0,(.str Ec)] U (aq (fun cJ U =>
 (br (some false) bY).wp K U (fun dJ U =>
 (ai .sub av true dJ (.int .i64 1)).wp K U (fun fG U =>
 (au (some (3,1)) none bY fG).wp K U (fun eN U =>
 (ah aD eN U).wp K U (fun fH U =>
 ag K 194 [a0,fH] U (aq (fun v37 U =>
 aj R (.aG []) U) (aa R))) (aa R)) (aa R)) (aa R)) (aa R)) (aa R))) (aa R))) (aa R)) (aa R)) (aa R)) (aa R)))) (aa R)) (aa R)) (aa R))) (aa R)) (aa R)) (aa R))) (aa R))))) (aa R)) (aa R)) (aa R))) (aa R))))) (aa R)) (aa R)) (aa R)) (aa R))) (aa R)) (aa R)) (aa R)) (aa R)) (aa R)) (aa R)) (aa R)) (aa R)) (aa R)) (aa R)
def QC:Prop :=
 (bR a0).wp K U (fun v7 U =>
 (ae (some 0) v7).wp K U (fun v8 U =>
 (ah aD v8 U).wp K U (fun v9 U =>
 (au (some (43,6)) none v9 a1).wp K U (fun v11 U =>
 (ae (some 0) v11).wp K U (fun v12 U =>
 (ah aD v12 U).wp K U (fun bP U =>
 ag K 196 [bP] U (aq (fun bK U =>
 (ai .lss av false bK a2).wp K U (fun cA U =>
 ao cA (
 ag K 193 [a0,(.str ek)] U (aq (fun bY U =>
 ag K 128 [a0,a1] U (aq (fun v21 U =>
 ag K 193 [a0,(.str eV)] U (aq (fun dp U =>
 aj R (.aG []) U) (aa R))) (aa R))) (aa R))) (
 ag K 128 [a0,a1] U (aq (fun er U =>
 aj R (.aG []) U) (aa R)))) (aa R)) (aa R))) (aa R)) (aa R)) (aa R)) (aa R)) (aa R)) (aa R)
def QE:Prop :=
 (ai .eql av true a0 (.int .u8 9)).wp K U (fun v5 U =>
 ao v5 (
 aj R (.int .i64 0) U) (
 gR 2 (fun v3 v6 U =>
 ao v6 (
 aj R (.int .i64 1) U) (
 (ai .eql av true v3 (.int .u8 17)).wp K U (fun bj U =>
 ao bj (
 aj R (.int .i64 2) U) (
 (ai .eql av true v3 (.int .u8 18)).wp K U (fun bW U =>
 ao bW (
 aj R (.int .i64 3) U) (
 (ai .eql av true v3 (.int .u8 19)).wp K U (fun bS U =>
 ao bS (
 aj R (.int .i64 4) U) (
 gR 2 (fun nN v20 U =>
 ao v20 (
 aj R (.int .i64 5) U) (
 gR 2 (fun Eb dp U =>
 ao dp (
 aj R (.int .i64 6) U) (
 (ai .eql av true Eb (.int .u8 24)).wp K U (fun dq U =>
 ao dq (
 aj R (.int .i64 7) U) (
 (ai .eql av true Eb (.int .u8 25)).wp K U (fun cJ U =>
 ao cJ (
 aj R (.int .i64 8) U) (
 aj R (.int .i64 9) U)) (aa R))) (aa R))) fun vY =>
 (ai .eql av true nN (.int .u8 22)).wp K U (fun v24 U =>
 ao v24 (
 vY nN v24 U) (
 (ai .eql av true nN (.int .u8 23)).wp K U (fun dE U =>
 vY nN dE U) (aa R))) (aa R))) fun Og =>
 (ai .eql av true v3 (.int .u8 20)).wp K U (fun v21 U =>
 ao v21 (
 Og v3 v21 U) (
 (ai .eql av true v3 (.int .u8 21)).wp K U (fun cw U =>
 Og v3 cw U) (aa R))) (aa R))) (aa R))) (aa R))) (aa R))) fun j =>
 (ai .eql av true a0 (.int .u8 10)).wp K U (fun v7 U =>
 ao v7 (
 j a0 v7 U) (
 (ai .eql av true a0 (.int .u8 11)).wp K U (fun v8 U =>
 ao v8 (
 j a0 v8 U) (
 (ai .eql av true a0 (.int .u8 12)).wp K U (fun v9 U =>
 ao v9 (
 j a0 v9 U) (
 (ai .eql av true a0 (.int .u8 13)).wp K U (fun v10 U =>
 ao v10 (
 j a0 v10 U) (
 (ai .eql av true a0 (.int .u8 14)).wp K U (fun v11 U =>
 ao v11 (
 j a0 v11 U) (
 (ai .eql av true a0 (.int .u8 15)).wp K U (fun v12 U =>
 ao v12 (
 j a0 v12 U) (
 (ai .eql av true a0 (.int .u8 16)).wp K U (fun bP U =>
 j a0 bP U) (aa R))) (aa R))) (aa R))) (aa R))) (aa R))) (aa R))) (aa R))) (aa R)
def rY:Prop :=
 (bR a0).wp K U (fun v7 U =>
 (ae (some 0) v7).wp K U (fun v8 U =>
 (ah aD v8 U).wp K U (fun v9 U =>
 (au (some (43,6)) none v9 a1).wp K U (fun v11 U =>
 (ah (some (true,6)) v11 U).wp K U (fun v12 U =>
 (ay.db [.int .u8 0,.str [],.int .i64 0,.int .i64 0,.int .i64 0,.int .i64 0]).wp K U (fun v4 U =>
 (aU (some (true,6)) v4 v12 U).wp K U (fun _ U =>
 (bR a0).wp K U (fun bK U =>
 (ae (some 0) bK).wp K U (fun bj U =>
 (ah aD bj U).wp K U (fun cA U =>
 ag K 67 [cA,a1] U (aq (fun bY U =>
 (ae (some 0) v4).wp K U (fun bS U =>
 (ah aD bS U).wp K U (fun v20 U =>
 (ai .eql av true v20 (.int .u8 10)).wp K U (fun cw U =>
 ao cw (
 ag K 193 [a0,(.str x6)] U (aq (fun v24 U =>
 (au (some (3,1)) none bY (.int .i64 0)).wp K U (fun dq U =>
 (ah aD dq U).wp K U (fun v28 U =>
 ag K 195 [a0,v28,(.int .i64 1)] U (aq (fun cJ U =>
 ag K 193 [a0,(.str sb)] U (aq (fun v31 U =>
 (au (some (3,1)) none bY (.int .i64 1)).wp K U (fun fG U =>
 (ah aD fG U).wp K U (fun eN U =>
 ag K 195 [a0,eN,(.int .i64 1)] U (aq (fun fH U =>
 ag K 193 [a0,(.str ia)] U (aq (fun gL U =>
 (au (some (3,1)) none bY (.int .i64 2)).wp K U (fun eY U =>
 (ah aD eY U).wp K U (fun iu U =>
 ag K 195 [a0,iu,(.int .i64 1)] U (aq (fun eI U =>
 aj R (.aG []) U) (aa R))) (aa R)) (aa R)) (aa R))) (aa R))) (aa R)) (aa R)) (aa R))) (aa R))) (aa R)) (aa R)) (aa R))) (
 (ai .eql av true v20 (.int .u8 11)).wp K U (fun gn U =>
 ao gn (
 ag K 193 [a0,(.str nH)] U (aq (fun iL U =>
 ag K 241 [a0,a1,(.str xZ),(.int .i64 1),(.int .i64 1)] U (aq (fun fJ U =>
 aj R (.aG []) U) (aa R))) (aa R))) (
 (ai .eql av true v20 (.int .u8 12)).wp K U (fun gT U =>
 ao gT (
 (fun aw:St =>
 aF K (ae (some 1) v4) (fun gi =>
 aF K (ah aD gi aw) (fun gU =>
 aF K (ai .add av true (.str oA) gU) (fun iM =>
 aF K (ai .add av true iM (.str lO)) (fun iv =>
 aF K (ae (some 2) v4) (fun iG =>
 aF K (ah aD iG aw) (fun v59 =>
 aF K (ay.enter 240 [v59]) (fun mz =>
 aF K (ai .add av false iv mz) (fun ju =>
 aF K (ai .add av true ju (.str ga)) (fun lC =>
 aF K (ae (some 3) v4) (fun je =>
 aF K (ah aD je aw) (fun nV =>
 aF K (ay.enter 240 [nV]) (fun lD =>
 aF K (ai .add av false lC lD) (fun nW =>
 aF K (ai .add av true nW (.str oL)) (fun nX =>
 ag K 193 [a0,nX] U (aq (fun j0 U=>cL ((dK je++[])++((dK iG++[])++((dK gi++[])++[]))) aw U /\
 (au (some (3,1)) none bY (.int .i64 0)).wp K U (fun mA U =>
 (ah aD mA U).wp K U (fun v72 U =>
 ag K 195 [a0,v72,(.int .i64 1)] U (aq (fun pn U =>
 aj R (.aG []) U) (aa R))) (aa R)) (aa R)) (aa R))))))))))))))))) U) (
 (ai .eql av true v20 (.int .u8 13)).wp K U (fun v75 U =>
 ao v75 (
 (ae (some 1) v4).wp K U (fun sL U =>
 (ah aD sL U).wp K U (fun sa U =>
 (ai .add av true (.str sZ) sa).wp K U (fun yq U =>
 (ai .add av true yq (.str oL)).wp K U (fun v80 U =>
 ag K 193 [a0,v80] U (aq (fun Dl U =>
 ag K 241 [a0,a1,(.str ia),(.int .i64 1),(.int .i64 1)] U (aq (fun Dp U =>
 aj R (.aG []) U) (aa R))) (aa R))) (aa R)) (aa R)) (aa R)) (aa R)) (
 (ai .eql av true v20 (.int .u8 14)).wp K U (fun yr U =>
 ao yr (
 (fun uP:St =>
 aF K (ae (some 1) v4) (fun FH =>
 aF K (ah aD FH uP) (fun FI =>
 aF K (ai .add av true (.str nG) FI) (fun Dq =>
 aF K (ai .add av true Dq (.str ga)) (fun v91 =>
 aF K (ae (some 2) v4) (fun FJ =>
 aF K (ah aD FJ uP) (fun v93 =>
 aF K (ay.enter 240 [v93]) (fun Be =>
 aF K (ai .add av false v91 Be) (fun Bf =>
 aF K (ai .add av true Bf (.str oL)) (fun zY =>
 ag K 193 [a0,zY] U (aq (fun IK U=>cL ((dK FJ++[])++((dK FH++[])++[])) uP U /\
 (au (some (3,1)) none bY (.int .i64 0)).wp K U (fun zV U =>
 (ah aD zV U).wp K U (fun D8 U =>
 ag K 195 [a0,D8,(.int .i64 1)] U (aq (fun IC U =>
 aj R (.aG []) U) (aa R))) (aa R)) (aa R)) (aa R)))))))))))) U) (
 (ai .eql av true v20 (.int .u8 15)).wp K U (fun xQ U =>
 ao xQ (
 ag K 193 [a0,(.str lP)] U (aq (fun D9 U =>
 ag K 241 [a0,a1,(.str ia),(.int .i64 1),(.int .i64 1)] U (aq (fun v109 U =>
 aj R (.aG []) U) (aa R))) (aa R))) (
 (ai .eql av true v20 (.int .u8 16)).wp K U (fun xR U =>
 ao xR (
 (ae (some 1) v4).wp K U (fun MA U =>
 (ah aD MA U).wp K U (fun BX U =>
 (ai .add av true BX (.str vq)).wp K U (fun IG U =>
 ag K 193 [a0,IG] U (aq (fun q9 U =>
 (au (some (3,1)) none bY (.int .i64 0)).wp K U (fun II U =>
 (ah aD II U).wp K U (fun Ea U =>
 ag K 195 [a0,Ea,(.int .i64 1)] U (aq (fun MB U =>
 aj R (.aG []) U) (aa R))) (aa R)) (aa R)) (aa R))) (aa R)) (aa R)) (aa R)) (
 aj R (.aG []) U)) (aa R))) (aa R))) (aa R))) (aa R))) (aa R))) (aa R))) (aa R)) (aa R)) (aa R)) (aa R))) (aa R)) (aa R)) (aa R)) (aa R)) (aa R)) (aa R)) (aa R)) (aa R)) (aa R)) (aa R)
def C8:Prop :=
 (bR a0).wp K U (fun v7 U =>
 (ae (some 0) v7).wp K U (fun v8 U =>
 (ah aD v8 U).wp K U (fun v9 U =>
 (au (some (43,6)) none v9 a1).wp K U (fun v11 U =>
 (ah (some (true,6)) v11 U).wp K U (fun v12 U =>
 (ay.db [.int .u8 0,.str [],.int .i64 0,.int .i64 0,.int .i64 0,.int .i64 0]).wp K U (fun v4 U =>
 (aU (some (true,6)) v4 v12 U).wp K U (fun _ U =>
 (bR a0).wp K U (fun bK U =>
 (ae (some 0) bK).wp K U (fun bj U =>
 (ah aD bj U).wp K U (fun cA U =>
 ag K 67 [cA,a1] U (aq (fun bY U =>
 (ae (some 0) v4).wp K U (fun bS U =>
 (ah aD bS U).wp K U (fun v20 U =>
 (ai .eql av true v20 (.int .u8 17)).wp K U (fun cw U =>
 ao cw (
 ag K 241 [a0,a1,(.str B3),(.int .i64 2),(.int .i64 3)] U (aq (fun dE U =>
 aj R (.aG []) U) (aa R))) (
 (ai .eql av true v20 (.int .u8 18)).wp K U (fun dq U =>
 ao dq (
 ag K 241 [a0,a1,(.str xX),(.int .i64 3),(.int .i64 4)] U (aq (fun v30 U =>
 aj R (.aG []) U) (aa R))) (
 (ai .eql av true v20 (.int .u8 19)).wp K U (fun et U =>
 ao et (
 ag K 193 [a0,(.str s0)] U (aq (fun fG U =>
 (au (some (3,1)) none bY (.int .i64 0)).wp K U (fun v37 U =>
 (ah aD v37 U).wp K U (fun gL U =>
 ag K 195 [a0,gL,(.int .i64 4)] U (aq (fun gS U =>
 aj R (.aG []) U) (aa R))) (aa R)) (aa R)) (aa R))) (
 (ai .eql av true v20 (.int .u8 20)).wp K U (fun eY U =>
 ao eY (
 ag K 241 [a0,a1,(.str iJ),(.int .i64 6),(.int .i64 6)] U (aq (fun jZ U =>
 aj R (.aG []) U) (aa R))) (
 (ai .eql av true v20 (.int .u8 21)).wp K U (fun v46 U =>
 ao v46 (
 ag K 241 [a0,a1,(.str rF),(.int .i64 6),(.int .i64 6)] U (aq (fun v49 U =>
 aj R (.aG []) U) (aa R))) (
 (ai .eql av true v20 (.int .u8 22)).wp K U (fun v51 U =>
 ao v51 (
 ag K 241 [a0,a1,(.str rD),(.int .i64 6),(.int .i64 7)] U (aq (fun gi U =>
 aj R (.aG []) U) (aa R))) (
 (ai .eql av true v20 (.int .u8 23)).wp K U (fun iM U =>
 ao iM (
 ag K 241 [a0,a1,(.str qA),(.int .i64 6),(.int .i64 7)] U (aq (fun v59 U =>
 aj R (.aG []) U) (aa R))) (
 (ai .eql av true v20 (.int .u8 24)).wp K U (fun ju U =>
 ao ju (
 ag K 241 [a0,a1,(.str sY),(.int .i64 7),(.int .i64 8)] U (aq (fun nV U =>
 aj R (.aG []) U) (aa R))) (
 (ai .eql av true v20 (.int .u8 25)).wp K U (fun nW U =>
 ao nW (
 (au (some (3,1)) none bY (.int .i64 0)).wp K U (fun p6 U =>
 (ah aD p6 U).wp K U (fun v70 U =>
 ag K 195 [a0,v70,(.int .i64 8)] U (aq (fun mA U =>
 (ae (some 2) v4).wp K U (fun pn U =>
 (ah aD pn U).wp K U (fun oT U =>
 ag K 240 [oT] U (aq (fun v75 U =>
 (ai .add av true (.str Ed) v75).wp K U (fun v76 U =>
 ag K 193 [a0,v76] U (aq (fun sL U =>
 aj R (.aG []) U) (aa R))) (aa R)) (aa R))) (aa R)) (aa R)) (aa R))) (aa R)) (aa R)) (
 aj R (.aG []) U)) (aa R))) (aa R))) (aa R))) (aa R))) (aa R))) (aa R))) (aa R))) (aa R))) (aa R)) (aa R)) (aa R)) (aa R))) (aa R)) (aa R)) (aa R)) (aa R)) (aa R)) (aa R)) (aa R)) (aa R)) (aa R)) (aa R)
def qx:Prop :=
 (bR a0).wp K U (fun v7 U =>
 (ae (some 0) v7).wp K U (fun v8 U =>
 (ah aD v8 U).wp K U (fun v9 U =>
 (au (some (43,6)) none v9 a1).wp K U (fun v11 U =>
 (ah (some (true,6)) v11 U).wp K U (fun v12 U =>
 (ay.db [.int .u8 0,.str [],.int .i64 0,.int .i64 0,.int .i64 0,.int .i64 0]).wp K U (fun v4 U =>
 (aU (some (true,6)) v4 v12 U).wp K U (fun _ U =>
 (bR a0).wp K U (fun bK U =>
 (ae (some 0) bK).wp K U (fun bj U =>
 (ah aD bj U).wp K U (fun cA U =>
 ag K 67 [cA,a1] U (aq (fun bY U =>
 (ae (some 0) v4).wp K U (fun bS U =>
 (ah aD bS U).wp K U (fun v20 U =>
 (ai .eql av true v20 (.int .u8 26)).wp K U (fun cw U =>
 ao cw (
 (ae (some 2) v4).wp K U (fun v24 U =>
 (ah aD v24 U).wp K U (fun dE U =>
 ag K 240 [dE] U (aq (fun er U =>
 ag K 193 [a0,er] U (aq (fun dq U =>
 aj R (.aG []) U) (aa R))) (aa R))) (aa R)) (aa R)) (
 (ai .eql av true v20 (.int .u8 27)).wp K U (fun cJ U =>
 ao cJ (
 ag K 193 [a0,(.str gz)] U (aq (fun v31 U =>
 aj R (.aG []) U) (aa R))) (
 (ai .eql av true v20 (.int .u8 28)).wp K U (fun dJ U =>
 ao dJ (
 ag K 193 [a0,(.str gp)] U (aq (fun eN U =>
 aj R (.aG []) U) (aa R))) (
 (ai .eql av true v20 (.int .u8 29)).wp K U (fun v37 U =>
 ao v37 (
 ag K 193 [a0,(.str jM)] U (aq (fun gS U =>
 aj R (.aG []) U) (aa R))) (
 (ai .eql av true v20 (.int .u8 30)).wp K U (fun eY U =>
 ao eY (
 ag K 193 [a0,(.str lE)] U (aq (fun eI U =>
 aj R (.aG []) U) (aa R))) (
 (ai .eql av true v20 (.int .u8 31)).wp K U (fun gn U =>
 ao gn (
 (ae (some 1) v4).wp K U (fun iL U =>
 (ah aD iL U).wp K U (fun hZ U =>
 (ai .add av true (.str Aa) hZ).wp K U (fun v49 U =>
 ag K 193 [a0,v49] U (aq (fun fJ U =>
 aj R (.aG []) U) (aa R))) (aa R)) (aa R)) (aa R)) (
 (ai .eql av true v20 (.int .u8 32)).wp K U (fun gT U =>
 ao gT (
 (ae (some 1) v4).wp K U (fun gi U =>
 (ah aD gi U).wp K U (fun gU U =>
 (ai .add av true (.str B0) gU).wp K U (fun iM U =>
 ag K 193 [a0,iM] U (aq (fun iv U =>
 aj R (.aG []) U) (aa R))) (aa R)) (aa R)) (aa R)) (
 gR 5 (fun v0 eC v5 xU iG U =>
 ao iG (
 (ae (some 1) eC).wp K U (fun lC U =>
 (ah aD lC U).wp K U (fun je U =>
 ag K 193 [v0,je] U (aq (fun nV U =>
 aj R (.aG []) U) (aa R))) (aa R)) (aa R)) (
 (ai .eql av true xU (.int .u8 34)).wp K U (fun nW U =>
 ao nW (
 (ae (some 1) eC).wp K U (fun j0 U =>
 (ah aD j0 U).wp K U (fun p6 U =>
 (ai .add av true p6 (.str oz)).wp K U (fun v70 U =>
 ag K 193 [v0,v70] U (aq (fun mA U =>
 ag K 239 [v0,v5] U (aq (fun oT U =>
 ag K 193 [v0,(.str eV)] U (aq (fun v76 U =>
 aj R (.aG []) U) (aa R))) (aa R))) (aa R))) (aa R)) (aa R)) (aa R)) (
 (ai .eql av true xU (.int .u8 35)).wp K U (fun sa U =>
 ao sa (
 ag K 193 [v0,(.str MJ)] U (aq (fun v80 U =>
 (br (some false) v5).wp K U (fun Dp U =>
 (ai .sub av true Dp (.int .i64 1)).wp K U (fun v85 U =>
 (dt false (some (3,1)) v5 none (some v85)).wp K U (fun yr U =>
 ag K 239 [v0,yr] U (aq (fun v87 U =>
 ag K 193 [v0,(.str eV)] U (aq (fun FI U =>
 (br (some false) v5).wp K U (fun v93 U =>
 (ai .sub av true v93 (.int .i64 1)).wp K U (fun Be U =>
 (au (some (3,1)) none v5 Be).wp K U (fun Bf U =>
 (ah aD Bf U).wp K U (fun zY U =>
 ag K 195 [v0,zY,(.int .i64 1)] U (aq (fun IK U =>
 aj R (.aG []) U) (aa R))) (aa R)) (aa R)) (aa R)) (aa R)) (aa R))) (aa R))) (aa R)) (aa R)) (aa R)) (aa R))) (
 (ai .eql av true xU (.int .u8 36)).wp K U (fun RV U =>
 ao RV (
 ag K 193 [v0,(.str JO)] U (aq (fun D8 U =>
 (au (some (3,1)) none v5 (.int .i64 0)).wp K U (fun xQ U =>
 (ah aD xQ U).wp K U (fun v105 U =>
 ag K 195 [v0,v105,(.int .i64 1)] U (aq (fun D9 U =>
 (fun aw:St =>
 aF K (bR v0) (fun v109 =>
 aF K (ae (some 0) v109) (fun IE =>
 aF K (ah aD IE aw) (fun xR =>
 aF K (au (some (3,1)) none v5 (.int .i64 1)) (fun MA =>
 aF K (ah aD MA aw) (fun BX =>
 aF K (au (some (43,6)) none xR BX) (fun IG =>
 aF K (ae (some 1) IG) (fun q9 =>
 aF K (ah aD q9 aw) (fun v117 =>
 aF K (ai .add av true (.str oM) v117) (fun IH =>
 aF K (ai .add av true IH (.str BZ)) (fun II =>
 ag K 193 [v0,II] U (aq (fun Ea U =>
 (au (some (3,1)) none v5 (.int .i64 2)).wp K U (fun xS U =>
 (ah aD xS U).wp K U (fun v124 U =>
 ag K 195 [v0,v124,(.int .i64 1)] U (aq (fun MC U =>
 ag K 193 [v0,(.str rG)] U (aq (fun v127 U =>
 aj R (.aG []) U) (aa R))) (aa R))) (aa R)) (aa R)) (aa R))))))))))))) U) (aa R))) (aa R)) (aa R)) (aa R))) (
 aj R (.aG []) U)) (aa R))) (aa R))) (aa R))) fun j =>
 (ai .eql av true v20 (.int .u8 33)).wp K U (fun v59 U =>
 ao v59 (
 j a0 v4 bY v20 v59 U) (
 (ai .eql av true v20 (.int .u8 37)).wp K U (fun mz U =>
 j a0 v4 bY v20 mz U) (aa R))) (aa R))) (aa R))) (aa R))) (aa R))) (aa R))) (aa R))) (aa R))) (aa R)) (aa R)) (aa R)) (aa R))) (aa R)) (aa R)) (aa R)) (aa R)) (aa R)) (aa R)) (aa R)) (aa R)) (aa R)) (aa R)
def QG:Prop :=
 (br (some false) a0).wp K U (fun v5 U =>
 (ai .gtr av true v5 (.int .i64 900)).wp K U (fun v6 U =>
 ao v6 (
 aj R (.int .i64 5) U) (
 di 2 [a0,(.int .i64 0)] U fun lp v0 v3 U =>
 (br (some false) v0).wp K U (fun v9 U =>
 (ai .lss av false v3 v9).wp K U (fun v10 U =>
 ao v10 (
 (au (some (51,3)) none v0 v3).wp K U (fun bj U =>
 (ah (some (true,3)) bj U).wp K U (fun cA U =>
 ag K 211 [cA] U (aq (fun bW U =>
 (hY .not bW).wp K U (fun bY U =>
 ao bY (
 aj R (.int .i64 2) U) (
 (ai .add av true v3 (.int .i64 1)).wp K U (fun v12 U =>
 lp v0 v12 U) (aa R))) (aa R)) (aa R))) (aa R)) (aa R)) (
 aj R (.int .i64 0) U)) (aa R)) (aa R))) (aa R)) (aa R)
def QI:Prop :=
 (eO a0).wp K U (fun v2 U =>
 (eO a1).wp K U (fun v3 U =>
 (ae (some 0) v2).wp K U (fun v5 U =>
 (ah aD v5 U).wp K U (fun v6 U =>
 (ai .neq av true v6 (.int .u8 4)).wp K U (fun v7 U =>
 ad K (ar v7 true) (ae (some 0) v3) (fun v9 =>
 ad K (ar v7 true) (ah aD v9 U) (fun v10 =>
 ad K (ar v7 true) (ai .neq av true v10 (.int .u8 4)) (fun v11 =>
 (aO v7 v11 (.bool false)).wp K U (fun v12 U =>
 ad K (ar v12 false) (ae (some 1) v2) (fun bK =>
 ad K (ar v12 false) (ah aD bK U) (fun bj =>
 ad K (ar v12 false) (ai .eql av true bj (.str eD)) (fun cA =>
 ad K (ar v12 false) (ay.val cA) (fun bW =>
 ad K (ar bW true) (ae (some 1) v3) (fun bY =>
 ad K (ar bW true) (ah aD bY U) (fun bS =>
 ad K (ar bW true) (ai .eql av true bS (.str iJ)) (fun v20 =>
 ad K (ar v12 false) (aO bW v20 (.bool false)) (fun v21 =>
 (aO v12 (.bool true) v21).wp K U (fun cw U =>
 aj R cw U) (aa R)))))))))) (aa R))))) (aa R)) (aa R)) (aa R)) (aa R)) (aa R)
def QK:Prop :=
 (ai .eql av true a0 (.int .u8 6)).wp K U (fun v4 U =>
 ad K (ar v4 false) (ay.val a0) (fun v6 =>
 ad K (ar v4 false) (ai .eql av true v6 (.int .u8 7)) (fun v7 =>
 (aO v4 (.bool true) v7).wp K U (fun v8 U =>
 aj R v8 U) (aa R)))) (aa R)
def QM:Prop :=
 ag K 185 [a0] U (aq (fun v4 U =>
 ad K (ar v4 false) (ay.val a0) (fun v6 =>
 ad K (ar v4 false) (ai .eql av true v6 (.int .u8 35)) (fun v7 =>
 (aO v4 (.bool true) v7).wp K U (fun v8 U =>
 ad K (ar v8 false) (ay.val a0) (fun v10 =>
 ad K (ar v8 false) (ai .eql av true v10 (.int .u8 36)) (fun v11 =>
 (aO v8 (.bool true) v11).wp K U (fun v12 U =>
 aj R v12 U) (aa R)))) (aa R)))) (aa R))
def QO:Prop :=
 ag K 33 [a0] U (aq (fun v8 U =>
 (aV v8 0).wp K U (fun v9 U =>
 (aV v8 1).wp K U (fun v10 U =>
 (aV v8 2).wp K U (fun v11 U =>
 (ai .eql av true v11 (.int .i64 0)).wp K U (fun bP U =>
 ad K (ar bP true) (ay.val v9) (fun bj =>
 ad K (ar bP true) (br (some false) bj) (fun cA =>
 ad K (ar bP true) (ai .eql av true cA (.int .i64 1)) (fun bW =>
 (aO bP bW (.bool false)).wp K U (fun bY U =>
 ad K (ar bY true) (ay.val v9) (fun v20 =>
 ad K (ar bY true) (au (some (51,3)) none v20 (.int .i64 0)) (fun v21 =>
 ad K (ar bY true) (ae (some 0) v21) (fun cw =>
 ad K (ar bY true) (ah aD cw U) (fun dp =>
 ad K (ar bY true) (ai .eql av true dp (.int .u8 1)) (fun v24 =>
 (aO bY v24 (.bool false)).wp K U (fun dE U =>
 ad K (ar dE true) (ay.val v9) (fun dq =>
 ad K (ar dE true) (au (some (51,3)) none dq (.int .i64 0)) (fun v28 =>
 ad K (ar dE true) (ae (some 1) v28) (fun cJ =>
 ad K (ar dE true) (ah aD cJ U) (fun v30 =>
 ad K (ar dE true) (ay.val a0) (fun v31 =>
 ad K (ar dE true) (ai .eql av false v30 v31) (fun et =>
 (aO dE et (.bool false)).wp K U (fun dJ U =>
 aj R dJ U) (aa R)))))))) (aa R))))))) (aa R))))) (aa R)) (aa R)) (aa R)) (aa R)) (aa R))
def QR:Prop :=
 (br (some false) a1).wp K U (fun v12 U =>
 di 5 [a0,a1,a1,v12,(.int .i64 0)] U fun lp v0 v1 v11 VU bP U =>
 (ai .lss av false bP VU).wp K U (fun bK U =>
 ao bK (
 (au (some (200,3)) none v11 bP).wp K U (fun cA U =>
 (ah (some (true,3)) cA U).wp K U (fun bW U =>
 (ay.db [.ez,.int .i64 0,.int .i64 0]).wp K U (fun v6 U =>
 (aU (some (true,3)) v6 bW U).wp K U (fun _ U =>
 (ai .add av true bP (.int .i64 1)).wp K U (fun v20 U =>
 (dt false (some (200,3)) v1 (some v20) none).wp K U (fun v21 U =>
 (br (some false) v21).wp K U (fun cw U =>
 di 10 [v0,v1,v6,(.int .i64 0),v11,VU,bP,v21,cw,(.int .i64 0)] U fun xi fm fO jV v7 Di VV uN V5 V6 dp U =>
 (ai .lss av false dp V6).wp K U (fun v24 U =>
 ao v24 (
 (au (some (200,3)) none V5 dp).wp K U (fun dE U =>
 (ah (some (true,3)) dE U).wp K U (fun er U =>
 (ay.db [.ez,.int .i64 0,.int .i64 0]).wp K U (fun v9 U =>
 (aU (some (true,3)) v9 er U).wp K U (fun _ U =>
 (ae (some 1) v9).wp K U (fun v28 U =>
 (ah aD v28 U).wp K U (fun cJ U =>
 (ai .add av false v7 cJ).wp K U (fun v30 U =>
 (ai .add av true dp (.int .i64 1)).wp K U (fun v31 U =>
 xi fm fO jV v30 Di VV uN V5 V6 v31 U) (aa R)) (aa R)) (aa R)) (aa R)) (aa R)) (aa R)) (aa R)) (aa R)) (
 di 8 [fm,fO,jV,v7,(.int .i64 0),Di,VV,uN] U fun HK vo xT MH kW v10 VS VW Dj U =>
 gR 9 (fun aaZ vp abh Um Az VT VX VY gT U =>
 ao gT (
 (ai .add av true Az (.int .i64 1)).wp K U (fun gi U =>
 HK aaZ vp abh Um gi VT VX VY U) (aa R)) (
 (ae (some 1) abh).wp K U (fun iM U =>
 (ah aD iM U).wp K U (fun iv U =>
 (ai .lss av false Az iv).wp K U (fun iG U =>
 ao iG (
 aj R (.bool false) U) (
 (dt false (some (5,1)) aaZ (some Az) none).wp K U (fun ju U =>
 (ai .add av true VY (.int .i64 1)).wp K U (fun lC U =>
 lp ju vp VT VX lC U) (aa R)) (aa R))) (aa R)) (aa R)) (aa R))) fun j =>
 (fun aw:St =>
 aF K (br (some false) vo) (fun fG =>
 aF K (ai .sub av false fG kW) (fun fH =>
 aF K (ai .lss av false v10 fH) (fun v37 =>
 ad K (ar v37 true) (ay.val v10) (fun gS =>
 ad K (ar v37 true) (ae (some 2) MH) (fun v40 =>
 ad K (ar v37 true) (ah aD v40 aw) (fun eY =>
 ad K (ar v37 true) (ai .lss av false gS eY) (fun iu =>
 aF K (aO v37 iu (.bool false)) (fun eI =>
 ad K (ar eI true) (ae (some 0) MH) (fun gn =>
 ad K (ar eI true) (ah aD gn aw) (fun v46 =>
 ad K (ar eI true) (ay.val vo) (fun iL =>
 ad K (ar eI true) (ay.val v10) (fun hZ =>
 ad K (ar eI true) (au (some (5,1)) none iL hZ) (fun v49 =>
 ad K (ar eI true) (ah aD v49 aw) (fun fJ =>
 ao (ar eI true) (
 (jW K.P v46 [fJ]).wp K U (fun v51 U=>cL ((dK v49++[])++((dK gn++[])++((dK v40++[])++[]))) aw U /\
 aF K (aO eI v51 (.bool false)) (fun MF =>
 j vo xT MH kW v10 VS VW Dj MF U)) (aa R)) (
 aF K (aO eI (.aG []) (.bool false)) (fun adq =>
 j vo xT MH kW v10 VS VW Dj adq U))))))))))))))))) U)) (aa R)) (aa R)) (aa R)) (aa R)) (aa R)) (aa R)) (aa R)) (aa R)) (
 (br (some false) v0).wp K U (fun nV U =>
 (ai .eql av true nV (.int .i64 0)).wp K U (fun lD U =>
 aj R lD U) (aa R)) (aa R))) (aa R)) (aa R)
def Ih:Prop :=
 (br (some false) a0).wp K U (fun v7 U =>
 di 4 [a0,a1,v7,(.int .i64 0)] U fun lp v0 v1 kW v8 U =>
 (ai .lss av false v8 kW).wp K U (fun v9 U =>
 ao v9 (
 (au (some (3,1)) none v0 v8).wp K U (fun bK U =>
 (ah aD bK U).wp K U (fun bj U =>
 (jW K.P v1 [bj]).wp K U (fun cA U =>
 ao cA (
 aj R v8 U) (
 (ai .add av true v8 (.int .i64 1)).wp K U (fun bY U =>
 lp v0 v1 kW bY U) (aa R))) (aa R)) (aa R)) (aa R)) (
 aj R (.int .i64 (-1)) U)) (aa R)) (aa R)
def QT:Prop :=
 (eO a0).wp K U (fun v1 U =>
 (ae (some 1) v1).wp K U (fun v5 U =>
 (ah aD v5 U).wp K U (fun v6 U =>
 (ai .eql av true v6 (.str w_)).wp K U (fun v7 U =>
 ao v7 (
 aj R (.bool false) U) (
 (ae (some 1) v1).wp K U (fun v9 U =>
 (ah aD v9 U).wp K U (fun v10 U =>
 ag K 172 [v10,(.int .i64 0)] U (aq (fun v11 U =>
 (aV v11 0).wp K U (fun v12 U =>
 (aV v11 1).wp K U (fun bP U =>
 (ay.db [.int .u8 0,.str [],.int .i64 0]).wp K U (fun v3 U =>
 (aU (some (true,3)) v3 v12 U).wp K U (fun _ U =>
 (ai .eql av true bP (.int .i64 0)).wp K U (fun bj U =>
 ad K (ar bj true) (ae (some 0) v3) (fun bW =>
 ad K (ar bj true) (ah aD bW U) (fun bY =>
 ad K (ar bj true) (ae (some 0) v1) (fun bS =>
 ad K (ar bj true) (ah aD bS U) (fun v20 =>
 ad K (ar bj true) (ai .eql av false bY v20) (fun v21 =>
 (aO bj v21 (.bool false)).wp K U (fun cw U =>
 ad K (ar cw true) (ae (some 1) v3) (fun v24 =>
 ad K (ar cw true) (ah aD v24 U) (fun dE =>
 ad K (ar cw true) (ae (some 1) v1) (fun er =>
 ad K (ar cw true) (ah aD er U) (fun dq =>
 ad K (ar cw true) (ai .eql av false dE dq) (fun v28 =>
 (aO cw v28 (.bool false)).wp K U (fun cJ U =>
 aj R cJ U) (aa R))))))) (aa R))))))) (aa R)) (aa R)) (aa R)) (aa R)) (aa R)) (aa R))) (aa R)) (aa R))) (aa R)) (aa R)) (aa R)) (aa R)
def aaP:Prop :=
 ag K 243 [a0,a1] U (aq (fun v10 U =>
 (ai .geq av true v10 (.int .i64 0)).wp K U (fun v12 U =>
 ao v12 (
 (fun aw:St =>
 aF K (dt true none a0 none (some v10)) (fun bj =>
 aF K (br (some true) a1) (fun bS =>
 aF K (ai .add av false v10 bS) (fun v20 =>
 aF K (dt true none a0 (some v20) none) (fun v21 =>
 aj R (.aG [bj,v21,(.bool true)]) U))))) U) (
 aj R (.aG [a0,(.str w_),(.bool false)]) U)) (aa R)) (aa R))
def aaQ:Prop :=
 ag K 246 [a0,a1] U (aq (fun v7 U =>
 (ai .geq av true v7 (.int .i64 0)).wp K U (fun v8 U =>
 aj R v8 U) (aa R)) (aa R))
def QW:Prop :=
 (ai .eql av true a0 (.int .u8 32)).wp K U (fun v5 U =>
 ad K (ar v5 false) (ay.val a0) (fun v7 =>
 ad K (ar v5 false) (ai .eql av true v7 (.int .u8 10)) (fun v8 =>
 (aO v5 (.bool true) v8).wp K U (fun v9 U =>
 ao v9 (
 aj R (.int .i64 1) U) (
 (ai .lss av true a0 (.int .u8 32)).wp K U (fun v12 U =>
 ad K (ar v12 false) (ay.val a0) (fun bK =>
 ad K (ar v12 false) (ai .gtr av true bK (.int .u8 126)) (fun bj =>
 (aO v12 (.bool true) bj).wp K U (fun cA U =>
 ao cA (
 aj R (.int .i64 0) U) (
 (ai .geq av true a0 (.int .u8 48)).wp K U (fun bS U =>
 ad K (ar bS true) (ay.val a0) (fun v21 =>
 ad K (ar bS true) (ai .leq av true v21 (.int .u8 57)) (fun cw =>
 (aO bS cw (.bool false)).wp K U (fun dp U =>
 ao dp (
 aj R (.int .i64 2) U) (
 (ai .geq av true a0 (.int .u8 97)).wp K U (fun er U =>
 ad K (ar er true) (ay.val a0) (fun v28 =>
 ad K (ar er true) (ai .leq av true v28 (.int .u8 122)) (fun cJ =>
 (aO er cJ (.bool false)).wp K U (fun v30 U =>
 ao v30 (
 aj R (.int .i64 3) U) (
 (ai .geq av true a0 (.int .u8 65)).wp K U (fun dJ U =>
 ad K (ar dJ true) (ay.val a0) (fun eN =>
 ad K (ar dJ true) (ai .leq av true eN (.int .u8 90)) (fun fH =>
 (aO dJ fH (.bool false)).wp K U (fun v37 U =>
 ao v37 (
 aj R (.int .i64 4) U) (
 aj R (.int .i64 5) U)) (aa R)))) (aa R))) (aa R)))) (aa R))) (aa R)))) (aa R))) (aa R)))) (aa R))) (aa R)))) (aa R)
def QY:Prop :=
 di 3 [a0,a1,a1] U fun lp v0 v1 v5 U =>
 (br (some true) v0).wp K U (fun v9 U =>
 (ai .lss av false v5 v9).wp K U (fun v10 U =>
 ad K (ar v10 true) (ay.val v0) (fun v12 =>
 ad K (ar v10 true) (ay.val v5) (fun bP =>
 ad K (ar v10 true) (eh true none none v12 bP) (fun bK =>
 ad K (ar v10 true) (ay.enter 254 [bK]) (fun bj =>
 ad K (ar v10 true) (ay.val bj) (fun cA =>
 ad K (ar cA false) (ay.val v0) (fun bW =>
 ad K (ar cA false) (ay.val v5) (fun bY =>
 ad K (ar cA false) (eh true none none bW bY) (fun bS =>
 ad K (ar cA false) (ay.enter 224 [bS]) (fun v20 =>
 ad K (ar v10 true) (aO cA (.bool true) v20) (fun v21 =>
 (aO v10 v21 (.bool false)).wp K U (fun cw U =>
 ao cw (
 (ai .add av true v5 (.int .i64 1)).wp K U (fun v24 U =>
 lp v0 v1 v24 U) (aa R)) (
 (dt true none v0 (some v1) (some v5)).wp K U (fun v28 U =>
 aj R v28 U) (aa R))) (aa R)))))))))))) (aa R)) (aa R)
def Q0:Prop :=
 (ai .geq av true a0 (.int .u8 97)).wp K U (fun v4 U =>
 ad K (ar v4 true) (ay.val a0) (fun v6 =>
 ad K (ar v4 true) (ai .leq av true v6 (.int .u8 122)) (fun v7 =>
 (aO v4 v7 (.bool false)).wp K U (fun v8 U =>
 aj R v8 U) (aa R)))) (aa R)
def Q2:Prop :=
 di 3 [a0,a1,(.int .i64 0)] U fun lp v0 v1 v5 U =>
 (br (some false) v0).wp K U (fun v8 U =>
 (ai .lss av false v5 v8).wp K U (fun v9 U =>
 ao v9 (
 (au (some (9,1)) none v0 v5).wp K U (fun bK U =>
 (ah aD bK U).wp K U (fun bj U =>
 (ai .eql av false bj v1).wp K U (fun bW U =>
 ao bW (
 aj R (.bool true) U) (
 (ai .add av true v5 (.int .i64 1)).wp K U (fun v11 U =>
 lp v0 v1 v11 U) (aa R))) (aa R)) (aa R)) (aa R)) (
 aj R (.bool false) U)) (aa R)) (aa R)
def Q4:Prop :=
 (aJ (some (9,1)) (some [.str []]) 30 false [(0,(.str xX)),(1,(.str zZ)),(2,(.str tZ)),(3,(.str kM)),(4,(.str lP)),(5,(.str xY)),(6,(.str j9)),(7,(.str xZ)),(8,(.str ia)),(9,(.str gO)),(10,(.str gp)),(11,(.str x5)),(12,(.str uO)),(13,(.str lE)),(14,(.str x6)),(15,(.str fC)),(16,(.str kN)),(17,(.str kU)),(18,(.str qD)),(19,(.str nF)),(20,(.str rI)),(21,(.str s0)),(22,(.str lQ)),(23,(.str abn)),(24,(.str B3)),(25,(.str s8)),(26,(.str jM)),(27,(.str sb)),(28,(.str gz)),(29,(.str nH))]).wp K U (fun v1 U =>
 aj R v1 U) (aa R)
def Q6:Prop :=
 (ai .geq av true a0 (.int .u8 48)).wp K U (fun v4 U =>
 ad K (ar v4 true) (ay.val a0) (fun v6 =>
 ad K (ar v4 true) (ai .leq av true v6 (.int .u8 57)) (fun v7 =>
 (aO v4 v7 (.bool false)).wp K U (fun v8 U =>
 aj R v8 U) (aa R)))) (aa R)
def Q8:Prop :=
 di 3 [a0,(.int .i64 0),(.int .i64 0)] U fun lp v0 v3 v4 U =>
 (br (some true) v0).wp K U (fun v7 U =>
 (ai .lss av false v4 v7).wp K U (fun v8 U =>
 ao v8 (
 (eh true none none v0 v4).wp K U (fun bP U =>
 ag K 224 [bP] U (aq (fun bK U =>
 (hY .not bK).wp K U (fun bj U =>
 ad K (ar bj false) (ay.val v4) (fun bW =>
 ad K (ar bj false) (ai .gtr av true bW (.int .i64 0)) (fun bY =>
 ad K (ar bj false) (ay.val bY) (fun bS =>
 ad K (ar bS true) (ay.val v0) (fun v20 =>
 ad K (ar bS true) (eh true none none v20 (.int .i64 0)) (fun v21 =>
 ad K (ar bS true) (ai .eql av true v21 (.int .u8 48)) (fun cw =>
 ad K (ar bj false) (aO bS cw (.bool false)) (fun dp =>
 (aO bj (.bool true) dp).wp K U (fun v24 U =>
 ao v24 (
 aj R (.int .i64 4) U) (
 (ai .mul av true (.int .i64 10) v3).wp K U (fun er U =>
 (eh true none none v0 v4).wp K U (fun cJ U =>
 (ai .sub av true cJ (.int .u8 48)).wp K U (fun v30 U =>
 (wJ (some .i64) true false false v30).wp K U (fun v31 U =>
 (ai .add av false er v31).wp K U (fun et U =>
 (u5 et (.int .i64 1000001)).wp K U (fun dJ U =>
 (ai .add av true v4 (.int .i64 1)).wp K U (fun v10 U =>
 lp v0 dJ v10 U) (aa R)) (aa R)) (aa R)) (aa R)) (aa R)) (aa R)) (aa R))) (aa R))))))))) (aa R)) (aa R))) (aa R)) (
 (ai .gtr av true v3 (.int .i64 1000000)).wp K U (fun eN U =>
 ao eN (
 aj R (.int .i64 3) U) (
 aj R (.int .i64 0) U)) (aa R))) (aa R)) (aa R)
def Ra:Prop :=
 (aJ (some (9,1)) (some [.str []]) 16 false [(0,(.str cR)),(1,(.str gd)),(2,(.str iJ)),(3,(.str rF)),(4,(.str rD)),(5,(.str qA)),(6,(.str sY)),(7,(.str qz)),(8,(.str ek)),(9,(.str eV)),(10,(.str qB)),(11,(.str rG)),(12,(.str dW)),(13,(.str dO)),(14,(.str eD)),(15,(.str rE))]).wp K U (fun v1 U =>
 aj R v1 U) (aa R)
def Rc:Prop :=
 (br (some true) a0).wp K U (fun v8 U =>
 (ai .sub av false v8 a1).wp K U (fun v10 U =>
 (br (some true) a2).wp K U (fun v12 U =>
 (ai .geq av false v10 v12).wp K U (fun bP U =>
 ad K (ar bP true) (ay.val a0) (fun bj =>
 ad K (ar bP true) (ay.val a1) (fun cA =>
 ad K (ar bP true) (ay.val a1) (fun bW =>
 ad K (ar bP true) (ay.val a2) (fun bY =>
 ad K (ar bP true) (br (some true) bY) (fun bS =>
 ad K (ar bP true) (ai .add av false bW bS) (fun v20 =>
 ad K (ar bP true) (dt true none bj (some cA) (some v20)) (fun v21 =>
 ad K (ar bP true) (ay.val a2) (fun cw =>
 ad K (ar bP true) (ai .eql av false v21 cw) (fun dp =>
 (aO bP dp (.bool false)).wp K U (fun v24 U =>
 aj R v24 U) (aa R))))))))))) (aa R)) (aa R)) (aa R)) (aa R)
def Rf:Prop :=
 (br (some false) a1).wp K U (fun v8 U =>
 di 4 [a0,a1,v8,(.int .i64 0)] U fun lp v0 v7 gy v9 U =>
 (ai .lss av false v9 gy).wp K U (fun v10 U =>
 ao v10 (
 (au (some (9,1)) none v7 v9).wp K U (fun v11 U =>
 (ah aD v11 U).wp K U (fun v12 U =>
 gR 6 (fun fm v5 v6 kW sv ra U =>
 (bR fm).wp K U (fun dp U =>
 (ae (some 1) dp).wp K U (fun v24 U =>
 (ah aD v24 U).wp K U (fun dE U =>
 (ee (some [(0,1),(1,1),(2,1)]) (some [.int .u8 0,.str [],.int .i64 0]) none [(0,v6),(1,v5)]).wp K U (fun v28 U =>
 (aJ (some (51,3)) (some [.int .u8 0,.str [],.int .i64 0]) 1 false [(0,v28)]).wp K U (fun cJ U =>
 (eu (some (51,3)) false dE cJ U).wp K U (fun v30 U =>
 (bR fm).wp K U (fun v31 U =>
 (ae (some 1) v31).wp K U (fun et U =>
 (aU aD et v30 U).wp K U (fun _ U =>
 (ai .add av true ra (.int .i64 1)).wp K U (fun dJ U =>
 lp fm kW sv dJ U) (aa R)) (aa R)) (aa R)) (aa R)) (aa R)) (aa R)) (aa R)) (aa R)) (aa R)) (aa R)) fun j =>
 (eh true none none v12 (.int .i64 0)).wp K U (fun bK U =>
 (ai .geq av true bK (.int .u8 97)).wp K U (fun bj U =>
 ad K (ar bj true) (ay.val v12) (fun bW =>
 ad K (ar bj true) (eh true none none bW (.int .i64 0)) (fun bY =>
 ad K (ar bj true) (ai .leq av true bY (.int .u8 122)) (fun bS =>
 (aO bj bS (.bool false)).wp K U (fun v20 U =>
 ao v20 (
 j v0 v12 (.int .u8 3) v7 gy v9 U) (
 j v0 v12 (.int .u8 4) v7 gy v9 U)) (aa R))))) (aa R)) (aa R)) (aa R)) (aa R)) (
 aj R (.aG []) U)) (aa R)) (aa R)
def Ri:Prop :=
 (bR a0).wp K U (fun v6 U =>
 (ae (some 1) v6).wp K U (fun v7 U =>
 (ah aD v7 U).wp K U (fun v8 U =>
 (ee (some [(0,1),(1,1),(2,1)]) (some [.int .u8 0,.str [],.int .i64 0]) none [(0,(.int .u8 1)),(1,a1)]).wp K U (fun v10 U =>
 (aJ (some (51,3)) (some [.int .u8 0,.str [],.int .i64 0]) 1 false [(0,v10)]).wp K U (fun v11 U =>
 (eu (some (51,3)) false v8 v11 U).wp K U (fun v12 U =>
 (bR a0).wp K U (fun bP U =>
 (ae (some 1) bP).wp K U (fun bK U =>
 (aU aD bK v12 U).wp K U (fun _ U =>
 aj R (.aG []) U) (aa R)) (aa R)) (aa R)) (aa R)) (aa R)) (aa R)) (aa R)) (aa R)) (aa R)
def Rk:Prop :=
 (br (some false) a1).wp K U (fun v7 U =>
 di 4 [a0,a1,v7,(.int .i64 0)] U fun lp v0 v6 kW v8 U =>
 (ai .lss av false v8 kW).wp K U (fun v9 U =>
 ao v9 (
 (au (some (3,1)) none v6 v8).wp K U (fun v11 U =>
 (ah aD v11 U).wp K U (fun v12 U =>
 gR 5 (fun fm v5 jV Um gy U =>
 ag K 123 [fm,v5] U (aq (fun v20 U =>
 (ai .add av true gy (.int .i64 1)).wp K U (fun v21 U =>
 lp fm jV Um v21 U) (aa R)) (aa R))) fun j =>
 (ai .gtr av true v8 (.int .i64 0)).wp K U (fun bK U =>
 ao bK (
 (aJ (some (9,1)) (some [.str []]) 1 false [(0,(.str dW))]).wp K U (fun cA U =>
 ag K 231 [v0,cA] U (aq (fun bW U =>
 j v0 v12 v6 kW v8 U) (aa R))) (aa R)) (
 j v0 v12 v6 kW v8 U)) (aa R)) (aa R)) (aa R)) (
 aj R (.aG []) U)) (aa R)) (aa R)
def Rm:Prop :=
 (fun aw:St =>
 aF K (bR a0) (fun v6 =>
 aF K (ae (some 1) v6) (fun v7 =>
 aF K (ah aD v7 aw) (fun v8 =>
 aF K (ay.enter 257 [a1]) (fun v10 =>
 aF K (ee (some [(0,1),(1,1),(2,1)]) (some [.int .u8 0,.str [],.int .i64 0]) none [(0,(.int .u8 2)),(1,v10)]) (fun v11 =>
 aF K (aJ (some (51,3)) (some [.int .u8 0,.str [],.int .i64 0]) 1 false [(0,v11)]) (fun v12 =>
 (eu (some (51,3)) false v8 v12 U).wp K U (fun bP U=>cL ((dK v7++[])++[]) aw U /\
 aF K (bR a0) (fun bK =>
 aF K (ae (some 1) bK) (fun bj =>
 (aU aD bj bP U).wp K U (fun _ U =>
 aj R (.aG []) U) (aa R)))) (aa R)))))))) U
def Rq:Prop :=
 (bR a0).wp K U (fun v8 U =>
 (ae (some 0) v8).wp K U (fun v9 U =>
 (ae (some 0) v9).wp K U (fun v10 U =>
 (ae (some 0) v10).wp K U (fun v11 U =>
 (ah aD v11 U).wp K U (fun v12 U =>
 (au (some (43,6)) none v12 a1).wp K U (fun bK U =>
 (ae (some 0) bK).wp K U (fun bj U =>
 (ah aD bj U).wp K U (fun cA U =>
 ag K 236 [a0,cA] U (aq (fun bW U =>
 (ai .geq av false bW a2).wp K U (fun bS U =>
 ao bS (
 ag K 123 [a0,a1] U (aq (fun cw U =>
 aj R (.aG []) U) (aa R))) (
 (aJ (some (9,1)) (some [.str []]) 1 false [(0,(.str ek))]).wp K U (fun v24 U =>
 ag K 231 [a0,v24] U (aq (fun dE U =>
 ag K 123 [a0,a1] U (aq (fun v28 U =>
 (aJ (some (9,1)) (some [.str []]) 1 false [(0,(.str eV))]).wp K U (fun v30 U =>
 ag K 231 [a0,v30] U (aq (fun v31 U =>
 aj R (.aG []) U) (aa R))) (aa R)) (aa R))) (aa R))) (aa R))) (aa R)) (aa R))) (aa R)) (aa R)) (aa R)) (aa R)) (aa R)) (aa R)) (aa R)) (aa R)
def Rs:Prop :=
 (bR a0).wp K U (fun v10 U =>
 (ae (some 2) v10).wp K U (fun v11 U =>
 (ah aD v11 U).wp K U (fun v12 U =>
 (tT (some (.i,185)) v12).wp K U (fun bP U =>
 di 2 [a1,bP] U fun lp v1 uN U =>
 (ry uN U).wp K U (fun bK U =>
 (aV bK 0).wp K U (fun bj U =>
 ao bj (
 (mf uN U).wp K U (fun cA U =>
 (aV cA 0).wp K U (fun bW U =>
 (aV cA 1).wp K U (fun bY U =>
 (tT (some (.s,5)) bY).wp K U (fun v20 U =>
 di 4 [v1,bW,uN,v20] U fun xi fO v5 Dj xU U =>
 (ry xU U).wp K U (fun v21 U =>
 (aV v21 0).wp K U (fun cw U =>
 ao cw (
 (mf xU U).wp K U (fun dp U =>
 (aV dp 1).wp K U (fun v24 U =>
 (ai .eql av false v24 fO).wp K U (fun dq U =>
 ao dq (
 aj R v5 U) (
 xi fO v5 Dj xU U)) (aa R)) (aa R)) (aa R)) (
 lp fO Dj U)) (aa R)) (aa R)) (aa R)) (aa R)) (aa R)) (aa R)) (
 (ai .eql av true v1 (.int .u8 9)).wp K U (fun v31 U =>
 ao v31 (
 aj R (.int .i64 0) U) (
 (ai .eql av true v1 (.int .u8 19)).wp K U (fun fG U =>
 ao fG (
 aj R (.int .i64 4) U) (
 (ai .geq av true v1 (.int .u8 10)).wp K U (fun v37 U =>
 ad K (ar v37 true) (ay.val v1) (fun gS =>
 ad K (ar v37 true) (ai .leq av true gS (.int .u8 16)) (fun v40 =>
 (aO v37 v40 (.bool false)).wp K U (fun eY U =>
 ao eY (
 aj R (.int .i64 1) U) (
 aj R (.int .i64 9) U)) (aa R)))) (aa R))) (aa R))) (aa R))) (aa R)) (aa R)) (aa R)) (aa R)) (aa R)) (aa R)
def Rv:Prop :=
 (br (some false) a1).wp K U (fun v9 U =>
 di 5 [a0,a2,a1,v9,(.int .i64 0)] U fun lp v0 v2 v8 ra v10 U =>
 (ai .lss av false v10 ra).wp K U (fun v11 U =>
 ao v11 (
 (au (some (3,1)) none v8 v10).wp K U (fun bP U =>
 (ah aD bP U).wp K U (fun bK U =>
 (au (some (9,1)) none v2 v10).wp K U (fun bY U =>
 (ah aD bY U).wp K U (fun bS U =>
 (aJ (some (9,1)) (some [.str []]) 1 false [(0,bS)]).wp K U (fun v20 U =>
 ag K 231 [v0,v20] U (aq (fun v21 U =>
 ag K 235 [v0,bK,(.int .i64 1)] U (aq (fun v24 U =>
 (ai .add av true v10 (.int .i64 1)).wp K U (fun dE U =>
 lp v0 v2 v8 ra dE U) (aa R)) (aa R))) (aa R))) (aa R)) (aa R)) (aa R)) (aa R)) (aa R)) (
 aj R (.aG []) U)) (aa R)) (aa R)
def Ry:Prop :=
 di 3 [a0,a1,(.int .i64 0)] U fun lp v0 v1 v4 U =>
 (br (some false) v1).wp K U (fun v7 U =>
 (ai .lss av false v4 v7).wp K U (fun v8 U =>
 ao v8 (
 gR 3 (fun fm fO eC U =>
 (au (some (3,1)) none fO eC).wp K U (fun bY U =>
 (ah aD bY U).wp K U (fun bS U =>
 ag K 128 [fm,bS] U (aq (fun v20 U =>
 (ai .add av true eC (.int .i64 1)).wp K U (fun v10 U =>
 lp fm fO v10 U) (aa R)) (aa R))) (aa R)) (aa R)) fun j =>
 (ai .gtr av true v4 (.int .i64 0)).wp K U (fun v12 U =>
 ao v12 (
 ag K 193 [v0,(.str dW)] U (aq (fun bK U =>
 j v0 v1 v4 U) (aa R))) (
 j v0 v1 v4 U)) (aa R)) (
 aj R (.aG []) U)) (aa R)) (aa R)
def Ii:Prop :=
 (ai .lss av true a0 (.int .i64 10)).wp K U (fun v4 U =>
 ao v4 (
 (ai .add av true a0 (.int .i64 1)).wp K U (fun v7 U =>
 (dt true none (.str tY) (some a0) (some v7)).wp K U (fun v8 U =>
 aj R v8 U) (aa R)) (aa R)) (
 (ai .quo av true a0 (.int .i64 10)).wp K U (fun v10 U =>
 ag K 240 [v10] U (aq (fun v11 U =>
 (ai .rem av true a0 (.int .i64 10)).wp K U (fun bP U =>
 ag K 240 [bP] U (aq (fun bK U =>
 (ai .add av false v11 bK).wp K U (fun bj U =>
 aj R bj U) (aa R)) (aa R))) (aa R)) (aa R))) (aa R))) (aa R)
def RA:Prop :=
 (bR a0).wp K U (fun v12 U =>
 (ae (some 0) v12).wp K U (fun bP U =>
 (ah aD bP U).wp K U (fun bK U =>
 ag K 67 [bK,a1] U (aq (fun cA U =>
 (au (some (3,1)) none cA (.int .i64 0)).wp K U (fun bS U =>
 (ah aD bS U).wp K U (fun v20 U =>
 ag K 195 [a0,v20,a3] U (aq (fun cw U =>
 ag K 193 [a0,a2] U (aq (fun dE U =>
 (au (some (3,1)) none cA (.int .i64 1)).wp K U (fun v28 U =>
 (ah aD v28 U).wp K U (fun cJ U =>
 ag K 195 [a0,cJ,a4] U (aq (fun v31 U =>
 aj R (.aG []) U) (aa R))) (aa R)) (aa R)) (aa R))) (aa R))) (aa R)) (aa R)) (aa R))) (aa R)) (aa R)) (aa R)
def RC:Prop :=
 (ah aD a1 U).wp K U (fun v5 U =>
 (ai .eql av false a0 v5).wp K U (fun v6 U =>
 aj R v6 U) (aa R)) (aa R)
def RE:Prop :=
 (br (some false) a0).wp K U (fun v7 U =>
 di 4 [a0,a1,v7,(.int .i64 0)] U fun lp v0 v1 kW v8 U =>
 (ai .lss av false v8 kW).wp K U (fun v9 U =>
 ao v9 (
 (au (some (178,1)) none v0 v8).wp K U (fun bK U =>
 (ah aD bK U).wp K U (fun bj U =>
 (ai .eql av false v1 bj).wp K U (fun cA U =>
 ao cA (
 aj R v8 U) (
 (ai .add av true v8 (.int .i64 1)).wp K U (fun bY U =>
 lp v0 v1 kW bY U) (aa R))) (aa R)) (aa R)) (aa R)) (
 aj R (.int .i64 (-1)) U)) (aa R)) (aa R)
def RG:Prop :=
 ag K 221 [a0] U (aq (fun v4 U =>
 ad K (ar v4 false) (ay.val a0) (fun v6 =>
 ad K (ar v4 false) (ai .geq av true v6 (.int .u8 65)) (fun v7 =>
 ad K (ar v4 false) (ay.val v7) (fun v8 =>
 ad K (ar v8 true) (ay.val a0) (fun v9 =>
 ad K (ar v8 true) (ai .leq av true v9 (.int .u8 90)) (fun v10 =>
 ad K (ar v4 false) (aO v8 v10 (.bool false)) (fun v11 =>
 (aO v4 (.bool true) v11).wp K U (fun v12 U =>
 aj R v12 U) (aa R)))))))) (aa R))
end
section
variable {a0 a1 a2 a3 a4 a5 a6:AV} {R:cO->St->Prop} {U:St}
theorem Fp (h:Ia a0 a1 a2 a3 R U):ag K 155 [a0,a1,a2,a3] U R:=bB Tryz.f155 X4 h
theorem Qd (h:Qc a0 R U):ag K 156 [a0] U R:=bB Tryz.f156 X5 h
theorem Qf (h:Qe a0 R U):ag K 170 [a0] U R:=bB Tryz.f170 X6 h
theorem Qh (h:Qg a0 a1 R U):ag K 171 [a0,a1] U R:=bB Tryz.f171 X7 h
theorem Qj (h:Qi a0 a1 R U):ag K 172 [a0,a1] U R:=bB Tryz.f172 X8 h
theorem Ql (h:Qk a0 R U):ag K 179 [a0] U R:=bB Tryz.f179 X9 h
theorem Qn (h:Qm a0 a1 a2 R U):ag K 180 [a0,a1,a2] U R:=bB Tryz.f180 Ya h
theorem Qp (h:Qo a0 R U):ag K 181 [a0] U R:=bB Tryz.f181 Yb h
theorem Fq (h:Ib a0 a1 a2 R U):ag K 182 [a0,a1,a2] U R:=bB Tryz.f182 Yc h
theorem Fs (h:Ic a0 a1 a2 R U):ag K 183 [a0,a1,a2] U R:=bB Tryz.f183 Yd h
theorem ou (h:rX a0 a1 a2 R U):ag K 184 [a0,a1,a2] U R:=bB Tryz.f184 Ye h
theorem Qs (h:Qq a0 R U):ag K 185 [a0] U R:=bB Tryz.f185 Yf h
theorem pZ (h:tU a0 a1 a2 R U):ag K 186 [a0,a1,a2] U R:=bB Tryz.f186 Yg h
theorem uK (h:zQ a0 a1 a2 R U):ag K 187 [a0,a1,a2] U R:=bB Tryz.f187 Yh h
theorem Qu (h:Qt a0 a1 R U):ag K 188 [a0,a1] U R:=bB Tryz.f188 Yi h
theorem Qw (h:Qv a0 a1 R U):ag K 189 [a0,a1] U R:=bB Tryz.f189 Yj h
theorem Qz (h:Qy a0 R U):ag K 191 [a0] U R:=bB Tryz.f191 Yk h
theorem Ft (h:Ie a0 a1 R U):ag K 192 [a0,a1] U R:=bB Tryz.f192 Yl h
theorem QB (h:QA a0 a1 R U):ag K 193 [a0,a1] U R:=bB Tryz.f193 Ym h
theorem Fu (h:Ig a0 a1 R U):ag K 194 [a0,a1] U R:=bB Tryz.f194 Yn h
theorem QD (h:QC a0 a1 a2 R U):ag K 195 [a0,a1,a2] U R:=bB Tryz.f195 Yo h
theorem QF (h:QE a0 R U):ag K 196 [a0] U R:=bB Tryz.f196 Yp h
theorem ov (h:rY a0 a1 R U):ag K 197 [a0,a1] U R:=bB Tryz.f197 Yq h
theorem zR (h:C8 a0 a1 R U):ag K 198 [a0,a1] U R:=bB Tryz.f198 Yr h
theorem mG (h:qx a0 a1 R U):ag K 199 [a0,a1] U R:=bB Tryz.f199 Ys h
theorem QH (h:QG a0 R U):ag K 200 [a0] U R:=bB Tryz.f200 Yt h
theorem QJ (h:QI a0 a1 R U):ag K 201 [a0,a1] U R:=bB Tryz.f201 Yu h
theorem QL (h:QK a0 R U):ag K 206 [a0] U R:=bB Tryz.f206 Yv h
theorem QN (h:QM a0 R U):ag K 207 [a0] U R:=bB Tryz.f207 Yw h
theorem QP (h:QO a0 R U):ag K 208 [a0] U R:=bB Tryz.f208 Yx h
theorem QS (h:QR a0 a1 R U):ag K 209 [a0,a1] U R:=bB Tryz.f209 Yy h
theorem Fv (h:Ih a0 a1 R U):ag K 210 [a0,a1] U R:=bB Tryz.f210 Yz h
theorem QU (h:QT a0 R U):ag K 211 [a0] U R:=bB Tryz.f211 YA h
theorem Fw (h:aaP a0 a1 R U):ag K 212 [a0,a1] U R:=bB Tryz.f212 YB h
theorem QV (h:aaQ a0 a1 R U):ag K 215 [a0,a1] U R:=bB Tryz.f215 YC h
theorem QX (h:QW a0 R U):ag K 216 [a0] U R:=bB Tryz.f216 YD h
theorem QZ (h:QY a0 a1 R U):ag K 220 [a0,a1] U R:=bB Tryz.f220 YE h
theorem Q1 (h:Q0 a0 R U):ag K 221 [a0] U R:=bB Tryz.f221 YF h
theorem Q3 (h:Q2 a0 a1 R U):ag K 222 [a0,a1] U R:=bB Tryz.f222 YG h
theorem Q5 (h:Q4 R U):ag K 223 [] U R:=bB Tryz.f223 YH h
theorem Q7 (h:Q6 a0 R U):ag K 224 [a0] U R:=bB Tryz.f224 YI h
theorem Q9 (h:Q8 a0 R U):ag K 225 [a0] U R:=bB Tryz.f225 YJ h
theorem Rb (h:Ra R U):ag K 226 [] U R:=bB Tryz.f226 YK h
theorem Re (h:Rc a0 a1 a2 R U):ag K 227 [a0,a1,a2] U R:=bB Tryz.f227 YL h
theorem Rh (h:Rf a0 a1 R U):ag K 231 [a0,a1] U R:=bB Tryz.f231 YM h
theorem Rj (h:Ri a0 a1 R U):ag K 232 [a0,a1] U R:=bB Tryz.f232 YN h
theorem Rl (h:Rk a0 a1 R U):ag K 233 [a0,a1] U R:=bB Tryz.f233 YO h
theorem Rp (h:Rm a0 a1 R U):ag K 234 [a0,a1] U R:=bB Tryz.f234 YP h
theorem Rr (h:Rq a0 a1 a2 R U):ag K 235 [a0,a1,a2] U R:=bB Tryz.f235 YQ h
theorem Ru (h:Rs a0 a1 R U):ag K 236 [a0,a1] U R:=bB Tryz.f236 YR h
theorem Rw (h:Rv a0 a1 a2 R U):ag K 237 [a0,a1,a2] U R:=bB Tryz.f237 YS h
theorem Rz (h:Ry a0 a1 R U):ag K 239 [a0,a1] U R:=bB Tryz.f239 YT h
theorem Fx (h:Ii a0 R U):ag K 240 [a0] U R:=bB Tryz.f240 YU h
theorem RB (h:RA a0 a1 a2 a3 a4 R U):ag K 241 [a0,a1,a2,a3,a4] U R:=bB Tryz.f241 YV h
theorem RD (h:RC a0 a1 R U):ag K 242 [a0,a1] U R:=bB Tryz.f242 YW h
theorem RF (h:RE a0 a1 R U):ag K 246 [a0,a1] U R:=bB Tryz.f246 YX h
theorem RH (h:RG a0 R U):ag K 254 [a0] U R:=bB Tryz.f254 YY h
end
end Go.Rip
