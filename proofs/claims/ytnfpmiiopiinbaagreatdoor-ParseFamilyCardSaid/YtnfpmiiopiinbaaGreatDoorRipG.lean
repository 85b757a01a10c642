/- Lemmas for the proof: no conditions. -/
import Derived.Test.YtnfpmiiopiinbaaGreatDoorRipZz
import Derived.Test.YtnfpmiiopiinbaaGreatDoorRipD
set_option linter.unusedVariables false
set_option linter.unusedSimpArgs false
set_option linter.loopingSimpArgs false
set_option maxRecDepth 100000
namespace Go.Rip
open Go.Proofs
def Ta : An := ag (aL (ag (.bk (.rf dj (.bk dj)))) (ag .z))
def Tb : An := ag (.bk (.lp [0, 2, 3, 5] (aL (ag (.cd .z .z)) (aL (.bk (ag (.cd .z .z))) dj))))
def Tc : An := ag (ag (aL (ag (.bk (.lp [0, 3, 8, 9, 10] (ag (aL (.cd .z .z) (aL (.bk (ag (ag dj))) dj)))))) (ag .z)))
def Td : An := ag (ag (aL (ag (.bk (.lp [0, 3, 8, 9, 10] (ag (aL (.cd .z .z) (aL (.bk (ag (ag dj))) dj)))))) (ag .z)))
def Te : An := ag (ag (ag (ag (ag (ag (ag (ag (ag (ag .z)))))))))
def Tf : An := ag (ag (ag (ag (ag (ag (ag (ag .z)))))))
def Tg : An := ag (ag (ag (ag (ag (ag .z)))))
def Th : An := ag (ag (ag (ag (ag (ag (ag (ag .z)))))))
def Ti : An := ag (aL (aL (.rg [] [] (some ⟨[(true, 0), (true, 1), (true, 2), (true, 3), (true, 4), (true, 5), (true, 6), (true, 7), (true, 8), (true, 9)], [⟨8, 1, 0⟩, ⟨16, 8, 1⟩, ⟨32, 16, 2⟩, ⟨64, 32, 4⟩, ⟨128, 1, 0⟩, ⟨256, 128, 16⟩, ⟨512, 256, 32⟩, ⟨1024, 512, 64⟩, ⟨2048, 1024, 128⟩, ⟨4096, 2112, 264⟩]⟩)) (.cd (aL (.rg [] [] (some ⟨[(true, 0), (true, 1), (true, 2), (true, 3), (true, 4), (true, 5), (true, 6), (true, 7), (true, 8), (true, 9), (true, 10), (true, 11)], [⟨8192, 1, 0⟩, ⟨16384, 8192, 1⟩, ⟨32768, 16384, 2⟩, ⟨65536, 32768, 4⟩, ⟨131072, 1, 0⟩, ⟨262144, 131072, 16⟩, ⟨524288, 262144, 32⟩, ⟨1048576, 524288, 64⟩, ⟨2097152, 1114112, 136⟩, ⟨4194304, 2097152, 256⟩, ⟨8388608, 4194304, 512⟩, ⟨4, 8388608, 2047⟩]⟩)) .z) .z)) (ag .z))
def Tj : An := ag (ag (.sq (some [0, 5]) (ag (.cd dj .z)) (ag (ag .z))))
def Tl : An := dj
def Tm : An := ag (aL (aL (.rg [] [] (some ⟨[(true, 0), (true, 1), (true, 2), (true, 3), (true, 4), (true, 5), (true, 6), (true, 7), (true, 8), (true, 9), (true, 10), (true, 11)], [⟨32, 1, 0⟩, ⟨64, 32, 1⟩, ⟨128, 64, 2⟩, ⟨256, 128, 4⟩, ⟨512, 2, 0⟩, ⟨1024, 768, 24⟩, ⟨2048, 1, 0⟩, ⟨4096, 2048, 64⟩, ⟨8192, 4096, 128⟩, ⟨16384, 8192, 256⟩, ⟨32768, 16384, 512⟩, ⟨65536, 33792, 1056⟩]⟩)) (.cd (aL (.rg [] [] (some ⟨[(true, 0), (true, 1), (true, 2), (true, 3), (true, 4), (true, 5), (true, 6), (true, 7), (true, 8), (true, 9), (true, 10), (true, 11), (false, 12)], [⟨131072, 1, 0⟩, ⟨262144, 131072, 1⟩, ⟨524288, 262144, 2⟩, ⟨1048576, 524288, 4⟩, ⟨2097152, 1, 0⟩, ⟨4194304, 2097152, 16⟩, ⟨8388608, 4194304, 32⟩, ⟨16777216, 8388608, 64⟩, ⟨33554432, 2, 0⟩, ⟨67108864, 50331648, 384⟩, ⟨134217728, 68157440, 520⟩, ⟨268435456, 134217728, 1024⟩, ⟨0, 268435472, 4095⟩]⟩)) .z) .z)) (ag .z))
def Tn : An := ag (ag (.sq (some [3]) (ag (.cd dj .z)) (ag .z)))
def To : An := ag (ag (aL (aL (.rg [] [] (some ⟨[(true, 0), (true, 1), (true, 2), (true, 3), (true, 4), (true, 5), (true, 6), (true, 7), (true, 8), (true, 9), (true, 10), (true, 11)], [⟨1024, 1, 0⟩, ⟨2048, 1024, 1⟩, ⟨4096, 2048, 2⟩, ⟨8192, 4096, 4⟩, ⟨16384, 8, 0⟩, ⟨32768, 16384, 16⟩, ⟨65536, 40960, 40⟩, ⟨512, 65536, 64⟩, ⟨131072, 512, 128⟩, ⟨262144, 512, 128⟩, ⟨16, 131072, 511⟩, ⟨32, 262144, 2047⟩]⟩)) (ag (.cd (ag .z) .z))) (aL (.sq (some [0, 36]) (.rg [] [121] none) (.cd (ag (ag (ag (ag .z)))) .z)) (ag .z))))
def Tp : An := ag (ag (aL (.bk (aL (.rg [] [221] none) (.cd (aL (ag (.cd (ag .z) .z)) (aL (ag (.cd (ag .z) .z)) (ag .z))) (aL (.rg [] [224] none) (.cd (aL (ag (ag (.cd (ag .z) .z))) (ag .z)) .z))))) (ag (aL (ag (.bk (.lp [0, 1, 4, 8, 9] (aL (ag (.cd .z .z)) (aL (.bk (ag (.cd (ag .z) .z))) dj))))) (ag .z)))))
def Tq : An := ag (ag .z)
def Tr : An := ag (ag .z)
def Ts : An := ag (ag .z)
def Tt : An := ag (ag .z)
def Tu : An := ag (ag .z)
def Tv : An := ag (ag .z)
def Tw : An := ag (ag .z)
def Tx : An := ag (ag (ag .z))
def Ty : An := ag (aL (ag (.bk (.lp [0, 1, 11, 12, 13] (ag (aL (.cd .z .z) (aL (.bk (ag (ag (aL (ag (.bk (.lp [0, 1, 6, 7, 11, 12, 13, 21, 22, 23] (ag (aL (.cd .z .z) (aL (.bk (ag dj)) dj)))))) (ag (aL (.bk (.lp [0, 1, 6, 7, 10, 11, 12, 13] (aL (.sq (some [0, 1, 6, 7, 10, 11, 12, 13, 52]) (.rg [] [] (some ⟨[(true, 0), (true, 1), (true, 2), (true, 3), (true, 4), (true, 5), (true, 6), (true, 7), (true, 8), (true, 9), (true, 10), (true, 11), (true, 12), (true, 13), (true, 14), (true, 15), (true, 16), (true, 17), (true, 18), (false, 19), (true, 20)], [⟨4294967296, 1024, 0⟩, ⟨8589934592, 1, 0⟩, ⟨17179869184, 8589934592, 2⟩, ⟨34359738368, 128, 0⟩, ⟨68719476736, 51539607552, 12⟩, ⟨137438953472, 73014444032, 17⟩, ⟨274877906944, 137438953472, 32⟩, ⟨549755813888, 274877907968, 64⟩, ⟨1099511627776, 274877907008, 64⟩, ⟨2199023255552, 1374389534720, 320⟩, ⟨4398046511104, 3023656976384, 704⟩, ⟨8796093022208, 4672924418048, 1088⟩, ⟨17592186044416, 8796093022208, 2112⟩, ⟨35184372088832, 17592186044480, 4096⟩, ⟨70368744177664, 52776558133248, 12288⟩, ⟨140737488355328, 17592186044417, 4096⟩, ⟨281474976710656, 17592186045440, 4096⟩, ⟨562949953421312, 439804651110400, 102400⟩, ⟨1125899906842624, 580542139465728, 135168⟩, ⟨2251799813685248, 1213860837064704, 282624⟩, ⟨4503599627370496, 2269391999729664, 528384⟩]⟩)) (.cd .z .z)) (.bk dj)))) (aL (ag (.cd (ag .z) .z)) dj))))))) dj)))))) (ag .z))
def Tz : An := ag (aL (ag (.bk (.lp [0, 1, 7, 8] (ag (aL (.cd .z .z) (aL (.bk (ag (ag (.cd (ag .z) .z)))) dj)))))) (ag .z))
def TA : An := ag (aL (ag (.cd (ag .z) .z)) (ag (ag .z)))
def TB : An := ag (aL (ag (ag (.cd (aL (.rg [] [] (some ⟨[(true, 0), (true, 1), (true, 2), (true, 3), (true, 4), (true, 5), (true, 6), (true, 7), (true, 8), (true, 9), (true, 10), (true, 11)], [⟨8192, 1, 0⟩, ⟨16384, 128, 0⟩, ⟨32768, 24576, 3⟩, ⟨65536, 1, 0⟩, ⟨131072, 128, 0⟩, ⟨262144, 2, 0⟩, ⟨524288, 262144, 32⟩, ⟨1048576, 655360, 80⟩, ⟨2097152, 1114112, 136⟩, ⟨16, 32768, 7⟩, ⟨32, 2097152, 1023⟩, ⟨64, 0, 2047⟩]⟩)) .z) .z))) (ag .z))
def TC : An := ag (ag .z)
def TD : An := ag (aL (.bk (ag (.cd (ag .z) (ag (.cd (ag .z) (ag (.cd (ag .z) (ag (.cd (ag .z) (ag (.cd (ag .z) .z))))))))))) (ag .z))
def TE : An := ag (aL (ag (.bk (ag (.cd (ag .z) (ag (.cd (aL (ag (ag (.cd (ag .z) .z))) (ag .z)) .z)))))) (ag (.bk (.lp [0, 1, 6] (.bk (aL (.rg [] [] (some ⟨[(true, 0), (true, 1), (true, 2), (true, 3), (true, 4), (true, 5), (true, 6), (false, 7), (true, 8), (true, 9), (true, 10), (true, 11), (true, 12), (true, 13)], [⟨34359738368, 1, 0⟩, ⟨68719476736, 34359738368, 1⟩, ⟨137438953472, 68719476736, 2⟩, ⟨274877906944, 137438953472, 4⟩, ⟨549755813888, 2, 0⟩, ⟨1099511627776, 824633720832, 24⟩, ⟨2199023255552, 1, 0⟩, ⟨4398046511104, 2199023255552, 64⟩, ⟨8796093022208, 5497558138880, 160⟩, ⟨17179869184, 8796093022208, 256⟩, ⟨17592186044416, 17179869184, 512⟩, ⟨35184372088832, 17179869184, 512⟩, ⟨128, 17592186044416, 2047⟩, ⟨256, 35184372088832, 8191⟩]⟩)) (aL (ag (.cd (ag .z) .z)) (ag (ag (aL (ag (.cd (ag (ag .z)) .z)) (ag (ag (.cd (ag .z) .z)))))))))))))
def TF : An := ag (ag (aL (.bk (.lp [0, 1, 5] (aL (aL (.rg [] [224, 254] none) (.cd .z .z)) (.bk dj)))) (ag .z)))
def TG : An := ag (ag .z)
def TH : An := ag (aL (ag (.bk (.lp [0, 1, 5] (aL (ag (.cd .z .z)) (aL (.bk (ag (.cd (ag .z) .z))) dj))))) (ag .z))
def TJ : An := ag (ag .z)
def TK : An := ag (ag .z)
def TL : An := ag (ag (aL (ag (.bk (.lp [0, 3, 4] (aL (ag (.cd .z .z)) (aL (.bk (aL (ag (.cd (ag .z) .z)) dj)) dj))))) (aL (ag (.cd (ag .z) .z)) (ag .z))))
def TM : An := ag (ag .z)
def TN : An := ag (ag .z)
def TO : An := ag (aL (ag (.bk (.lp [0, 1, 7, 8] (ag (aL (.cd .z .z) (aL (.bk (ag (ag (.cd (ag .z) .z)))) dj)))))) (ag .z))
def TP : An := ag (aL (ag (.bk (.lp [1, 13] (ag (aL (.cd .z .z) (.bk (ag (ag (.bk (.lp [1, 5, 13, 20] (ag (aL (.cd .z .z) (.bk (ag (ag (.cd (ag .z) .z)))))))))))))))) (aL (.bk (ag (.cd (ag .z) (ag (.cd (ag .z) (ag (.cd (ag .z) .z))))))) (ag .z)))
def TQ : An := ag (ag .z)
def TR : An := ag (aL (ag (.bk (.lp [0, 1, 7, 8] (ag (aL (.cd .z .z) (aL (.bk (ag (ag (.cd (ag .z) .z)))) dj)))))) (ag .z))
def TS : An := ag (ag (aL (ag (ag (.cd (ag (ag (.sq (some [6]) (ag (.cd dj .z)) (ag .z)))) .z))) (aL (ag (.cd (ag (ag (ag .z))) .z)) (aL (ag (.cd (ag (ag (ag .z))) .z)) (ag (ag (.sq (some [9]) (ag (.cd (ag (ag dj)) .z)) (ag .z))))))))
def TT : An := ag (aL (ag (ag (.cd (ag .z) .z))) (ag .z))
def TU : An := ag (ag .z)
def TV : An := ag (aL (.bk (ag (.cd (ag (ag (ag (ag (ag (ag .z)))))) (ag (.cd (ag (ag (ag (ag (ag (ag (ag (ag (ag (ag (ag .z))))))))))) .z))))) (ag .z))
def TW : An := ag (ag (ag (ag .z)))
section
variable (a0 a1 a2 a3 a4 a5 a6 : AV) (R : cB -> St -> Prop) (U : St)
def KU : Prop :=
 (dZ a0).wp K U (fun v2 U =>
 qG K 1 a1 U (fun v7 q U =>
 q.Du (fun U =>
 (ao aK v2 U).wp K U (fun v8 U =>
 (aM (some (3, 1)) (some [.int .i64 0]) 1 false [(0, v7)]).wp K U (fun v10 U =>
 (eJ (some (3, 1)) false v8 v10 U).wp K U (fun v11 U =>
 (aQ aK v2 v11 U).wp K U (fun _ U =>
 q.n U) (fun _ _ => False)) (fun _ _ => False)) (fun _ _ => False)) (fun _ _ => False)) U) (fun U =>
 (ao aK v2 U).wp K U (fun v12 U =>
 aj R v12 U) (aa R)) (fun i U =>
 Fk (Nat.beq i 0) (
 (ao aK v2 U).wp K U (fun B5 U =>
 aj R B5 U) (aa R)) (
 False)) (fun U =>
 aj R .ax U) (fun x U => (aa R) x U)) (aa R)
def KW : Prop :=
 (ao aK a1 U).wp K U (fun v6 U =>
 (ak .add aC true v6 (.int .i64 1)).wp K U (fun v7 U =>
 cG 4 [a0, a2, a3, v7] U fun lp v0 v2 v3 v5 U =>
 (ao aK v2 U).wp K U (fun v9 U =>
 (ak .lss aC false v5 v9).wp K U (fun v10 U =>
 ad K (aq v10 true) (ah (some 0) v3) (fun v12 =>
 ad K (aq v10 true) (ah (some 0) v12) (fun bD =>
 ad K (aq v10 true) (ao aK bD U) (fun bQ =>
 ad K (aq v10 true) (av.val v5) (fun bA =>
 ad K (aq v10 true) (aF (some (43, 6)) none bQ bA) (fun cx =>
 ad K (aq v10 true) (ah (some 5) cx) (fun cg =>
 ad K (aq v10 true) (ao aK cg U) (fun bV =>
 ad K (aq v10 true) (ak .gtr aC true bV (.int .i64 0)) (fun cw =>
 (aP v10 cw (.bool false)).wp K U (fun v20 U =>
 al v20 (
 (fM K.P v0 [v5]).wp K U (fun fG U =>
 (fi .not fG).wp K U (fun dF U =>
 al dF (
 aj R (.aO []) U) (
 (ah (some 0) v3).wp K U (fun ck U =>
 (ah (some 0) ck).wp K U (fun cR U =>
 (ao aK cR U).wp K U (fun v24 U =>
 (aF (some (43, 6)) none v24 v5).wp K U (fun eB U =>
 (ah (some 5) eB).wp K U (fun dw U =>
 (ao aK dw U).wp K U (fun v28 U =>
 (ak .add aC false v5 v28).wp K U (fun ct U =>
 lp v0 v2 v3 ct U) (aa R)) (aa R)) (aa R)) (aa R)) (aa R)) (aa R)) (aa R))) (aa R)) (aa R)) (
 aj R (.aO []) U)) (aa R)))))))))) (aa R)) (aa R)) (aa R)) (aa R)
def KY : Prop :=
 af K 99 [a0, (.int .u8 10)] U (ar (fun v7 U =>
 (aM (some (9, 1)) (some [.str []]) 3 false [(0, (.str yk)), (1, (.str s8)), (2, (.str kL))]).wp K U (fun v8 U =>
 (bw (some false) v8).wp K U (fun v9 U =>
 cG 5 [a0, v7, v8, v9, (.int .i64 0)] U fun lp v0 v3 eW oe v10 U =>
 (ak .lss aC false v10 oe).wp K U (fun v11 U =>
 al v11 (
 (aF (some (9, 1)) none eW v10).wp K U (fun v12 U =>
 (ao aK v12 U).wp K U (fun bD U =>
 af K 102 [v0, bD] U (ar (fun cx U =>
 af K 169 [v0] U (ar (fun cw U =>
 (aM (some (87, 1)) (some [.a7]) 1 false [(0, cw)]).wp K U (fun v20 U =>
 af K 103 [v3, v20] U (ar (fun v21 U =>
 (ak .add aC true v10 (.int .i64 1)).wp K U (fun ck U =>
 lp v0 v3 eW oe ck U) (aa R)) (aa R))) (aa R)) (aa R))) (aa R))) (aa R)) (aa R)) (
 aj R v3 U)) (aa R)) (aa R)) (aa R)) (aa R))
def K2 : Prop :=
 af K 99 [a0, (.int .u8 11)] U (ar (fun v7 U =>
 (aM (some (9, 1)) (some [.str []]) 2 false [(0, (.str oL)), (1, (.str AE))]).wp K U (fun v8 U =>
 (bw (some false) v8).wp K U (fun v9 U =>
 cG 5 [a0, v7, v8, v9, (.int .i64 0)] U fun lp v0 v3 eW oe v10 U =>
 (ak .lss aC false v10 oe).wp K U (fun v11 U =>
 al v11 (
 (aF (some (9, 1)) none eW v10).wp K U (fun v12 U =>
 (ao aK v12 U).wp K U (fun bD U =>
 af K 102 [v0, bD] U (ar (fun cx U =>
 af K 169 [v0] U (ar (fun cw U =>
 (aM (some (87, 1)) (some [.a7]) 1 false [(0, cw)]).wp K U (fun v20 U =>
 af K 103 [v3, v20] U (ar (fun v21 U =>
 (ak .add aC true v10 (.int .i64 1)).wp K U (fun ck U =>
 lp v0 v3 eW oe ck U) (aa R)) (aa R))) (aa R)) (aa R))) (aa R))) (aa R)) (aa R)) (
 aj R v3 U)) (aa R)) (aa R)) (aa R)) (aa R))
def K4 : Prop :=
 af K 99 [a0, (.int .u8 12)] U (ar (fun v5 U =>
 af K 102 [a0, (.str wP)] U (ar (fun v7 U =>
 af K 101 [a0] U (ar (fun v10 U =>
 (bz v5).wp K U (fun v11 U =>
 (ah (some 0) v11).wp K U (fun v12 U =>
 (ah (some 1) v12).wp K U (fun bD U =>
 (aQ aK bD v10 U).wp K U (fun _ U =>
 af K 102 [a0, (.str wL)] U (ar (fun bA U =>
 af K 168 [a0] U (ar (fun bV U =>
 (bz v5).wp K U (fun cw U =>
 (ah (some 0) cw).wp K U (fun v20 U =>
 (ah (some 2) v20).wp K U (fun v21 U =>
 (aQ aK v21 bV U).wp K U (fun _ U =>
 af K 102 [a0, (.str cP)] U (ar (fun cR U =>
 af K 168 [a0] U (ar (fun eB U =>
 (bz v5).wp K U (fun dw U =>
 (ah (some 0) dw).wp K U (fun v28 U =>
 (ah (some 3) v28).wp K U (fun ct U =>
 (aQ aK ct eB U).wp K U (fun _ U =>
 af K 102 [a0, (.str qN)] U (ar (fun v31 U =>
 af K 169 [a0] U (ar (fun gi U =>
 (aM (some (87, 1)) (some [.a7]) 1 false [(0, gi)]).wp K U (fun eD U =>
 af K 103 [v5, eD] U (ar (fun fq U =>
 aj R fq U) (aa R))) (aa R)) (aa R))) (aa R))) (aa R)) (aa R)) (aa R)) (aa R)) (aa R))) (aa R))) (aa R)) (aa R)) (aa R)) (aa R)) (aa R))) (aa R))) (aa R)) (aa R)) (aa R)) (aa R)) (aa R))) (aa R))) (aa R))
def K6 : Prop :=
 af K 99 [a0, (.int .u8 13)] U (ar (fun v5 U =>
 af K 102 [a0, (.str pW)] U (ar (fun v7 U =>
 af K 101 [a0] U (ar (fun v10 U =>
 (bz v5).wp K U (fun v11 U =>
 (ah (some 0) v11).wp K U (fun v12 U =>
 (ah (some 1) v12).wp K U (fun bD U =>
 (aQ aK bD v10 U).wp K U (fun _ U =>
 af K 102 [a0, (.str qN)] U (ar (fun bA U =>
 af K 169 [a0] U (ar (fun bV U =>
 (aM (some (87, 1)) (some [.a7]) 1 false [(0, bV)]).wp K U (fun cw U =>
 af K 103 [v5, cw] U (ar (fun v20 U =>
 af K 102 [a0, (.str kL)] U (ar (fun ck U =>
 af K 169 [a0] U (ar (fun dV U =>
 (aM (some (87, 1)) (some [.a7]) 1 false [(0, dV)]).wp K U (fun eB U =>
 af K 103 [v5, eB] U (ar (fun dw U =>
 aj R dw U) (aa R))) (aa R)) (aa R))) (aa R))) (aa R))) (aa R)) (aa R))) (aa R))) (aa R)) (aa R)) (aa R)) (aa R)) (aa R))) (aa R))) (aa R))
def K8 : Prop :=
 af K 99 [a0, (.int .u8 15)] U (ar (fun v5 U =>
 af K 102 [a0, (.str oJ)] U (ar (fun v7 U =>
 af K 169 [a0] U (ar (fun v10 U =>
 (aM (some (87, 1)) (some [.a7]) 1 false [(0, v10)]).wp K U (fun v11 U =>
 af K 103 [v5, v11] U (ar (fun v12 U =>
 af K 102 [a0, (.str kL)] U (ar (fun bQ U =>
 af K 169 [a0] U (ar (fun cg U =>
 (aM (some (87, 1)) (some [.a7]) 1 false [(0, cg)]).wp K U (fun bV U =>
 af K 103 [v5, bV] U (ar (fun cw U =>
 aj R cw U) (aa R))) (aa R)) (aa R))) (aa R))) (aa R))) (aa R)) (aa R))) (aa R))) (aa R))
def La : Prop :=
 af K 99 [a0, (.int .u8 14)] U (ar (fun v5 U =>
 af K 102 [a0, (.str oK)] U (ar (fun v7 U =>
 af K 101 [a0] U (ar (fun v10 U =>
 (bz v5).wp K U (fun v11 U =>
 (ah (some 0) v11).wp K U (fun v12 U =>
 (ah (some 1) v12).wp K U (fun bD U =>
 (aQ aK bD v10 U).wp K U (fun _ U =>
 af K 102 [a0, (.str cP)] U (ar (fun bA U =>
 af K 168 [a0] U (ar (fun bV U =>
 (bz v5).wp K U (fun cw U =>
 (ah (some 0) cw).wp K U (fun v20 U =>
 (ah (some 2) v20).wp K U (fun v21 U =>
 (aQ aK v21 bV U).wp K U (fun _ U =>
 af K 102 [a0, (.str qN)] U (ar (fun cR U =>
 af K 169 [a0] U (ar (fun eB U =>
 (aM (some (87, 1)) (some [.a7]) 1 false [(0, eB)]).wp K U (fun dw U =>
 af K 103 [v5, dw] U (ar (fun v28 U =>
 aj R v28 U) (aa R))) (aa R)) (aa R))) (aa R))) (aa R)) (aa R)) (aa R)) (aa R)) (aa R))) (aa R))) (aa R)) (aa R)) (aa R)) (aa R)) (aa R))) (aa R))) (aa R))
def Lc : Prop :=
 (fun aE : St =>
 az K (bz a0) (fun v4 =>
 az K (ah (some 1) v4) (fun v5 =>
 az K (ao aK v5 aE) (fun v6 =>
 az K (bz a0) (fun v8 =>
 az K (ah (some 0) v8) (fun v9 =>
 az K (ao aK v9 aE) (fun v10 =>
 az K (bw (some false) v10) (fun v11 =>
 az K (ak .lss aC false v6 v11) (fun v12 =>
 al v12 (
 (fun mW : St =>
 az K (bz a0) (fun bQ =>
 az K (ah (some 0) bQ) (fun bA =>
 az K (ao aK bA mW) (fun cx =>
 az K (bz a0) (fun bV =>
 az K (ah (some 1) bV) (fun cw =>
 az K (ao aK cw mW) (fun v20 =>
 az K (aF (some (51, 3)) none cx v20) (fun v21 =>
 az K (ah (some 2) v21) (fun ck =>
 az K (ao aK ck mW) (fun cR =>
 aj R cR U)))))))))) U) (
 (bz a0).wp K U (fun dV U =>
 (ah (some 2) dV).wp K U (fun eB U =>
 (ao aK eB U).wp K U (fun dw U =>
 aj R dw U) (aa R)) (aa R)) (aa R))))))))))) U
def VY : Prop :=
 af K 167 [a0, (.int .i64 0)] U (ar (fun v7 U =>
 (av.c7 [.int .u8 0, .str [], .int .i64 0]).wp K U (fun v5 U =>
 (aQ (some (true, 3)) v5 v7 U).wp K U (fun _ U =>
 iU 2 (fun v0 jB U =>
 (bz v0).wp K U (fun bA U =>
 (ah (some 1) bA).wp K U (fun cx U =>
 (ao aK cx U).wp K U (fun cg U =>
 (ak .add aC true cg (.int .i64 1)).wp K U (fun bV U =>
 (bz v0).wp K U (fun cw U =>
 (ah (some 1) cw).wp K U (fun v20 U =>
 (aQ aK v20 bV U).wp K U (fun _ U =>
 (ah (some 1) jB).wp K U (fun v21 U =>
 (ao aK v21 U).wp K U (fun ck U =>
 aj R ck U) (aa R)) (aa R)) (aa R)) (aa R)) (aa R)) (aa R)) (aa R)) (aa R)) (aa R)) fun j =>
 (ah (some 0) v5).wp K U (fun v8 U =>
 (ao aK v8 U).wp K U (fun v9 U =>
 (ak .neq aC false v9 a1).wp K U (fun v11 U =>
 al v11 (
 af K 166 [a0] U (ar (fun bD U =>
 j a0 v5 U) (aa R))) (
 j a0 v5 U)) (aa R)) (aa R)) (aa R)) (aa R)) (aa R)) (aa R))
def VZ : Prop :=
 af K 164 [a0] U (ar (fun v3 U =>
 (c6 (some [(0, 1)]) (some [.int .i64 0]) none [(0, v3)]).wp K U (fun v4 U =>
 (tJ true 136 v4).wp K U (fun v5 U =>
 (qA v5).wp K U (fun _ U =>
 aj R (.aO []) U) (aa R)) (aa R)) (aa R)) (aa R))
def Lh : Prop :=
 (av.c7 [.int .u8 0, .str [], .int .i64 0]).wp K U (fun v4 U =>
 (fun aE : St =>
 az K (bz a0) (fun v6 =>
 az K (ah (some 1) v6) (fun v7 =>
 az K (ao aK v7 aE) (fun v8 =>
 az K (ak .add aC false v8 a1) (fun v10 =>
 az K (bz a0) (fun v12 =>
 az K (ah (some 0) v12) (fun bD =>
 az K (ao aK bD aE) (fun bQ =>
 az K (bw (some false) bQ) (fun bA =>
 az K (ak .lss aC false v10 bA) (fun cx =>
 al cx (
 (fun mW : St =>
 az K (bz a0) (fun bV =>
 az K (ah (some 0) bV) (fun cw =>
 az K (ao aK cw mW) (fun v20 =>
 az K (bz a0) (fun ck =>
 az K (ah (some 1) ck) (fun cR =>
 az K (ao aK cR mW) (fun v24 =>
 az K (ak .add aC false v24 a1) (fun eB =>
 az K (aF (some (51, 3)) none v20 eB) (fun dw =>
 az K (ao (some (true, 3)) dw mW) (fun v28 =>
 (aQ (some (true, 3)) v4 v28 U).wp K U (fun _ U =>
 bF (some (true, 3)) v4 U fun r0 =>
 aj R r0 U) (aa R))))))))))) U) (
 (c6 (some [(0, 1), (1, 1), (2, 1)]) (some [.int .u8 0, .str [], .int .i64 0]) none []).wp K U (fun ct U =>
 (aQ (some (true, 3)) v4 ct U).wp K U (fun _ U =>
 bF (some (true, 3)) v4 U fun qF =>
 aj R qF U) (aa R)) (aa R)))))))))))) U) (aa R)
def V4 : Prop :=
 af K 165 [a0, (.int .u8 2)] U (ar (fun v7 U =>
 af K 218 [v7] U (ar (fun v8 U =>
 (aT v8 0).wp K U (fun v9 U =>
 (aT v8 1).wp K U (fun v10 U =>
 iU 1 (fun v3 U =>
 aj R v3 U) fun j =>
 (ak .neq (BT.mk false true false none false) true v10 .cI).wp K U (fun v12 U =>
 al v12 (
 af K 166 [a0] U (ar (fun bQ U =>
 j v9 U) (aa R))) (
 j v9 U)) (aa R)) (aa R)) (aa R)) (aa R))) (aa R))
def Lk : Prop :=
 af K 167 [a0, (.int .i64 0)] U (ar (fun v8 U =>
 (av.c7 [.int .u8 0, .str [], .int .i64 0]).wp K U (fun v3 U =>
 (aQ (some (true, 3)) v3 v8 U).wp K U (fun _ U =>
 (fun aE : St =>
 az K (bz a0) (fun v11 =>
 az K (ah (some 4) v11) (fun v12 =>
 az K (ao aK v12 aE) (fun bD =>
 az K (ah (some 1) v3) (fun bQ =>
 az K (ao aK bQ aE) (fun bA =>
 az K (fx (some (.s, 186)) (some .cX) bD bA true aE) (fun cx =>
 az K (aT cx 0) (fun cg =>
 az K (aT cx 1) (fun bV =>
 ad K (aq bV true) (ah (some 0) v3) (fun v21 =>
 ad K (aq bV true) (ao aK v21 U) (fun ck =>
 ad K (aq bV true) (ak .eql aC true ck (.int .u8 3)) (fun cR =>
 (aP bV cR (.bool false)).wp K U (fun v24 U =>
 al v24 (
 (fM K.P cg [a0]).wp K U (fun dw U =>
 aj R dw U) (aa R)) (
 iU 2 (fun v0 fq U =>
 al fq (
 af K 99 [v0, (.int .u8 16)] U (ar (fun fV U =>
 af K 101 [v0] U (ar (fun jE U =>
 (bz fV).wp K U (fun jY U =>
 (ah (some 0) jY).wp K U (fun eI U =>
 (ah (some 1) eI).wp K U (fun nL U =>
 (aQ aK nL jE U).wp K U (fun _ U =>
 af K 102 [v0, (.str cP)] U (ar (fun v46 U =>
 af K 169 [v0] U (ar (fun v49 U =>
 (aM (some (87, 1)) (some [.a7]) 1 false [(0, v49)]).wp K U (fun mc U =>
 af K 103 [fV, mc] U (ar (fun v51 U =>
 aj R v51 U) (aa R))) (aa R)) (aa R))) (aa R))) (aa R)) (aa R)) (aa R)) (aa R)) (aa R))) (aa R))) (
 af K 219 [v0, (.int .i64 2)] U (ar (fun v53 U =>
 aj R v53 U) (aa R)))) fun j =>
 (ah (some 0) v3).wp K U (fun v28 U =>
 (ao aK v28 U).wp K U (fun ct U =>
 (ak .eql aC true ct (.int .u8 1)).wp K U (fun v30 U =>
 ad K (aq v30 true) (av.val a0) (fun fG =>
 al (aq v30 true) (
 af K 167 [fG, (.int .i64 1)] U (ar (fun dF U =>
 ad K (aq v30 true) (aM (some (9, 1)) (some [.str []]) 1 false [(0, (.str cP))]) (fun gi =>
 ad K (aq v30 true) (av.enter 121 [dF, gi]) (fun eD =>
 (aP v30 eD (.bool false)).wp K U (fun oV U =>
 j a0 oV U) (aa R)))) (aa R))) (
 ad K (aq v30 true) (aM (some (9, 1)) (some [.str []]) 1 false [(0, (.str cP))]) (fun HE =>
 ad K (aq v30 true) (av.enter 121 [(.aO []), HE]) (fun zA =>
 (aP v30 zA (.bool false)).wp K U (fun Yx U =>
 j a0 Yx U) (aa R)))))) (aa R)) (aa R)) (aa R))) (aa R))))))))))))) U) (aa R)) (aa R)) (aa R))
def Lm : Prop :=
 (av.c7 [.int .u8 0, .str [], .int .i64 0]).wp K U (fun v4 U =>
 af K 220 [a0, a1] U (ar (fun v12 U =>
 (ak .neq aC true v12 (.str w_)).wp K U (fun bA U =>
 ad K (aq bA true) (av.val v12) (fun cg =>
 ad K (aq bA true) (ey true none none cg (.int .i64 0)) (fun bV =>
 ad K (aq bA true) (av.enter 221 [bV]) (fun cw =>
 (aP bA cw (.bool false)).wp K U (fun v20 U =>
 al v20 (
 af K 223 [] U (ar (fun v21 U =>
 af K 222 [v21, v12] U (ar (fun cR U =>
 al cR (
 (c6 (some [(0, 1), (1, 1), (2, 1)]) (some [.int .u8 0, .str [], .int .i64 0]) none [(0, (.int .u8 3)), (1, v12), (2, a1)]).wp K U (fun eB U =>
 (aQ (some (true, 3)) v4 eB U).wp K U (fun _ U =>
 bF (some (true, 3)) v4 U fun r0 =>
 aj R (.aO [r0, (.int .i64 0)]) U) (aa R)) (aa R)) (
 (bw (some true) v12).wp K U (fun v28 U =>
 (ak .gtr aC true v28 (.int .i64 12)).wp K U (fun ct U =>
 al ct (
 (c6 (some [(0, 1), (1, 1), (2, 1)]) (some [.int .u8 0, .str [], .int .i64 0]) none []).wp K U (fun v30 U =>
 (aQ (some (true, 3)) v4 v30 U).wp K U (fun _ U =>
 bF (some (true, 3)) v4 U fun qF =>
 aj R (.aO [qF, (.int .i64 4)]) U) (aa R)) (aa R)) (
 (c6 (some [(0, 1), (1, 1), (2, 1)]) (some [.int .u8 0, .str [], .int .i64 0]) none [(0, (.int .u8 1)), (1, v12), (2, a1)]).wp K U (fun dF U =>
 (aQ (some (true, 3)) v4 dF U).wp K U (fun _ U =>
 bF (some (true, 3)) v4 U fun tY =>
 aj R (.aO [tY, (.int .i64 0)]) U) (aa R)) (aa R))) (aa R)) (aa R))) (aa R))) (aa R))) (
 (ak .neq aC true v12 (.str w_)).wp K U (fun fq U =>
 ad K (aq fq true) (av.val v12) (fun fV =>
 ad K (aq fq true) (ey true none none fV (.int .i64 0)) (fun iJ =>
 ad K (aq fq true) (av.enter 224 [iJ]) (fun v40 =>
 (aP fq v40 (.bool false)).wp K U (fun jE U =>
 al jE (
 af K 225 [v12] U (ar (fun eI U =>
 (ak .neq aC true eI (.int .i64 0)).wp K U (fun jU U =>
 al jU (
 (c6 (some [(0, 1), (1, 1), (2, 1)]) (some [.int .u8 0, .str [], .int .i64 0]) none []).wp K U (fun v46 U =>
 (aQ (some (true, 3)) v4 v46 U).wp K U (fun _ U =>
 bF (some (true, 3)) v4 U fun x7 =>
 aj R (.aO [x7, eI]) U) (aa R)) (aa R)) (
 (c6 (some [(0, 1), (1, 1), (2, 1)]) (some [.int .u8 0, .str [], .int .i64 0]) none [(0, (.int .u8 2)), (1, v12), (2, a1)]).wp K U (fun mc U =>
 (aQ (some (true, 3)) v4 mc U).wp K U (fun _ U =>
 bF (some (true, 3)) v4 U fun DJ =>
 aj R (.aO [DJ, (.int .i64 0)]) U) (aa R)) (aa R))) (aa R)) (aa R))) (
 af K 226 [] U (ar (fun v51 U =>
 cG 5 [a0, a1, v4, v51, (.int .i64 0)] U fun lp v0 v1 dW v8 v9 U =>
 (bw (some false) v8).wp K U (fun lL U =>
 (ak .lss aC false v9 lL).wp K U (fun iX U =>
 al iX (
 (aF (some (9, 1)) none v8 v9).wp K U (fun pz U =>
 (ao aK pz U).wp K U (fun qJ U =>
 af K 227 [v0, v1, qJ] U (ar (fun mN U =>
 al mN (
 (aF (some (9, 1)) none v8 v9).wp K U (fun mO U =>
 (ao aK mO U).wp K U (fun qK U =>
 (c6 (some [(0, 1), (1, 1), (2, 1)]) (some [.int .u8 0, .str [], .int .i64 0]) none [(0, (.int .u8 4)), (1, qK), (2, v1)]).wp K U (fun v70 U =>
 (aQ (some (true, 3)) dW v70 U).wp K U (fun _ U =>
 bF (some (true, 3)) dW U fun x8 =>
 aj R (.aO [x8, (.int .i64 0)]) U) (aa R)) (aa R)) (aa R)) (aa R)) (
 (ak .add aC true v9 (.int .i64 1)).wp K U (fun kK U =>
 lp v0 v1 dW v8 kK U) (aa R))) (aa R))) (aa R)) (aa R)) (
 (c6 (some [(0, 1), (1, 1), (2, 1)]) (some [.int .u8 0, .str [], .int .i64 0]) none []).wp K U (fun qL U =>
 (aQ (some (true, 3)) dW qL U).wp K U (fun _ U =>
 bF (some (true, 3)) dW U fun DK =>
 aj R (.aO [DK, (.int .i64 4)]) U) (aa R)) (aa R))) (aa R)) (aa R)) (aa R)))) (aa R))))) (aa R))) (aa R))))) (aa R)) (aa R))) (aa R)
def V5 : Prop :=
 af K 230 [a0, a1] U (ar (fun v7 U =>
 (ak .geq aC true v7 (.int .i64 0)).wp K U (fun v8 U =>
 aj R v8 U) (aa R)) (aa R))
def Lp : Prop :=
 (ak .geq aC true a0 (.int .u8 2)).wp K U (fun v4 U =>
 ad K (aq v4 true) (av.val a0) (fun v6 =>
 ad K (aq v4 true) (ak .leq aC true v6 (.int .u8 4)) (fun v7 =>
 (aP v4 v7 (.bool false)).wp K U (fun v8 U =>
 aj R v8 U) (aa R)))) (aa R)
def Lr : Prop :=
 af K 206 [a0] U (ar (fun v4 U =>
 ad K (aq v4 false) (av.val a0) (fun v6 =>
 ad K (aq v4 false) (ak .eql aC true v6 (.int .u8 8)) (fun v7 =>
 (aP v4 (.bool true) v7).wp K U (fun v8 U =>
 aj R v8 U) (aa R)))) (aa R))
def Lt : Prop :=
 (ak .geq aC true a0 (.int .u8 9)).wp K U (fun v4 U =>
 ad K (aq v4 true) (av.val a0) (fun v6 =>
 ad K (aq v4 true) (ak .leq aC true v6 (.int .u8 34)) (fun v7 =>
 (aP v4 v7 (.bool false)).wp K U (fun v8 U =>
 aj R v8 U) (aa R)))) (aa R)
def Lv : Prop :=
 (ak .geq aC true a0 (.int .u8 2)).wp K U (fun v4 U =>
 ad K (aq v4 true) (av.val a0) (fun v6 =>
 ad K (aq v4 true) (ak .leq aC true v6 (.int .u8 4)) (fun v7 =>
 (aP v4 v7 (.bool false)).wp K U (fun v8 U =>
 aj R v8 U) (aa R)))) (aa R)
def Lx : Prop :=
 (ak .eql aC true a0 (.int .u8 6)).wp K U (fun v4 U =>
 ad K (aq v4 false) (av.val a0) (fun v6 =>
 ad K (aq v4 false) (ak .eql aC true v6 (.int .u8 7)) (fun v7 =>
 (aP v4 (.bool true) v7).wp K U (fun v8 U =>
 aj R v8 U) (aa R)))) (aa R)
def Lz : Prop :=
 af K 185 [a0] U (ar (fun v4 U =>
 ad K (aq v4 false) (av.val a0) (fun v6 =>
 ad K (aq v4 false) (ak .eql aC true v6 (.int .u8 35)) (fun v7 =>
 (aP v4 (.bool true) v7).wp K U (fun v8 U =>
 ad K (aq v8 false) (av.val a0) (fun v10 =>
 ad K (aq v8 false) (ak .eql aC true v10 (.int .u8 36)) (fun v11 =>
 (aP v8 (.bool true) v11).wp K U (fun v12 U =>
 aj R v12 U) (aa R)))) (aa R)))) (aa R))
def LB : Prop :=
 af K 33 [a0] U (ar (fun v8 U =>
 (aT v8 0).wp K U (fun v9 U =>
 (aT v8 1).wp K U (fun v10 U =>
 (aT v8 2).wp K U (fun v11 U =>
 (ak .eql aC true v11 (.int .i64 0)).wp K U (fun bD U =>
 ad K (aq bD true) (av.val v9) (fun bA =>
 ad K (aq bD true) (bw (some false) bA) (fun cx =>
 ad K (aq bD true) (ak .eql aC true cx (.int .i64 1)) (fun cg =>
 (aP bD cg (.bool false)).wp K U (fun bV U =>
 ad K (aq bV true) (av.val v9) (fun v20 =>
 ad K (aq bV true) (aF (some (51, 3)) none v20 (.int .i64 0)) (fun v21 =>
 ad K (aq bV true) (ah (some 0) v21) (fun ck =>
 ad K (aq bV true) (ao aK ck U) (fun cR =>
 ad K (aq bV true) (ak .eql aC true cR (.int .u8 1)) (fun v24 =>
 (aP bV v24 (.bool false)).wp K U (fun dV U =>
 ad K (aq dV true) (av.val v9) (fun dw =>
 ad K (aq dV true) (aF (some (51, 3)) none dw (.int .i64 0)) (fun v28 =>
 ad K (aq dV true) (ah (some 1) v28) (fun ct =>
 ad K (aq dV true) (ao aK ct U) (fun v30 =>
 ad K (aq dV true) (av.val a0) (fun v31 =>
 ad K (aq dV true) (ak .eql aC false v30 v31) (fun fG =>
 (aP dV fG (.bool false)).wp K U (fun dF U =>
 aj R dF U) (aa R)))))))) (aa R))))))) (aa R))))) (aa R)) (aa R)) (aa R)) (aa R)) (aa R))
def LF : Prop :=
 (bw (some false) a1).wp K U (fun v12 U =>
 cG 5 [a0, a1, a1, v12, (.int .i64 0)] U fun lp v0 v1 v11 B5 bD U =>
 (ak .lss aC false bD B5).wp K U (fun bQ U =>
 al bQ (
 (aF (some (200, 3)) none v11 bD).wp K U (fun cx U =>
 (ao (some (true, 3)) cx U).wp K U (fun cg U =>
 (av.c7 [.cX, .int .i64 0, .int .i64 0]).wp K U (fun v6 U =>
 (aQ (some (true, 3)) v6 cg U).wp K U (fun _ U =>
 (ak .add aC true bD (.int .i64 1)).wp K U (fun v20 U =>
 (dU false (some (200, 3)) v1 (some v20) none).wp K U (fun v21 U =>
 (bw (some false) v21).wp K U (fun ck U =>
 cG 10 [v0, v1, v6, (.int .i64 0), v11, B5, bD, v21, ck, (.int .i64 0)] U fun tH mw eT sf v7 zy Q1 wG Q5 Q6 cR U =>
 (ak .lss aC false cR Q6).wp K U (fun v24 U =>
 al v24 (
 (aF (some (200, 3)) none Q5 cR).wp K U (fun dV U =>
 (ao (some (true, 3)) dV U).wp K U (fun eB U =>
 (av.c7 [.cX, .int .i64 0, .int .i64 0]).wp K U (fun v9 U =>
 (aQ (some (true, 3)) v9 eB U).wp K U (fun _ U =>
 (ah (some 1) v9).wp K U (fun v28 U =>
 (ao aK v28 U).wp K U (fun ct U =>
 (ak .add aC false v7 ct).wp K U (fun v30 U =>
 (ak .add aC true cR (.int .i64 1)).wp K U (fun v31 U =>
 tH mw eT sf v30 zy Q1 wG Q5 Q6 v31 U) (aa R)) (aa R)) (aa R)) (aa R)) (aa R)) (aa R)) (aa R)) (aa R)) (
 cG 8 [mw, eT, sf, v7, (.int .i64 0), zy, Q1, wG] U fun Ds sd ui HF nk v10 QZ Q2 zz U =>
 iU 9 (fun Wn se WG abe HC Q0 Q3 Q4 jZ U =>
 al jZ (
 (ak .add aC true HC (.int .i64 1)).wp K U (fun lL U =>
 Ds Wn se WG abe lL Q0 Q3 Q4 U) (aa R)) (
 (ah (some 1) WG).wp K U (fun oc U =>
 (ao aK oc U).wp K U (fun kK U =>
 (ak .lss aC false HC kK).wp K U (fun mM U =>
 al mM (
 aj R (.bool false) U) (
 (dU false (some (5, 1)) Wn (some HC) none).wp K U (fun uI U =>
 (ak .add aC true Q4 (.int .i64 1)).wp K U (fun pz U =>
 lp uI se Q0 Q3 pz U) (aa R)) (aa R))) (aa R)) (aa R)) (aa R))) fun j =>
 (fun aE : St =>
 az K (bw (some false) sd) (fun gi =>
 az K (ak .sub aC false gi nk) (fun fq =>
 az K (ak .lss aC false v10 fq) (fun v37 =>
 ad K (aq v37 true) (av.val v10) (fun iJ =>
 ad K (aq v37 true) (ah (some 2) HF) (fun v40 =>
 ad K (aq v37 true) (ao aK v40 aE) (fun jE =>
 ad K (aq v37 true) (ak .lss aC false iJ jE) (fun jY =>
 az K (aP v37 jY (.bool false)) (fun eI =>
 ad K (aq eI true) (ah (some 0) HF) (fun jU =>
 ad K (aq eI true) (ao aK jU aE) (fun v46 =>
 ad K (aq eI true) (av.val sd) (fun lK =>
 ad K (aq eI true) (av.val v10) (fun iK =>
 ad K (aq eI true) (aF (some (5, 1)) none lK iK) (fun v49 =>
 ad K (aq eI true) (ao aK v49 aE) (fun mc =>
 al (aq eI true) (
 (fM K.P v46 [mc]).wp K U (fun v51 U => cU ((cT v49 ++ []) ++ ((cT jU ++ []) ++ ((cT v40 ++ []) ++ []))) aE U /\
 az K (aP eI v51 (.bool false)) (fun Yy =>
 j sd ui HF nk v10 QZ Q2 zz Yy U)) (aa R)) (
 az K (aP eI (.aO []) (.bool false)) (fun Yz =>
 j sd ui HF nk v10 QZ Q2 zz Yz U))))))))))))))))) U)) (aa R)) (aa R)) (aa R)) (aa R)) (aa R)) (aa R)) (aa R)) (aa R)) (
 (bw (some false) v0).wp K U (fun mN U =>
 (ak .eql aC true mN (.int .i64 0)).wp K U (fun sW U =>
 aj R sW U) (aa R)) (aa R))) (aa R)) (aa R)
def DS : Prop :=
 (bw (some false) a0).wp K U (fun v7 U =>
 cG 4 [a0, a1, v7, (.int .i64 0)] U fun lp v0 v1 nk v8 U =>
 (ak .lss aC false v8 nk).wp K U (fun v9 U =>
 al v9 (
 (aF (some (3, 1)) none v0 v8).wp K U (fun bQ U =>
 (ao aK bQ U).wp K U (fun bA U =>
 (fM K.P v1 [bA]).wp K U (fun cx U =>
 al cx (
 aj R v8 U) (
 (ak .add aC true v8 (.int .i64 1)).wp K U (fun bV U =>
 lp v0 v1 nk bV U) (aa R))) (aa R)) (aa R)) (aa R)) (
 aj R (.int .i64 (-1)) U)) (aa R)) (aa R)
def LH : Prop :=
 (dZ a0).wp K U (fun v1 U =>
 (ah (some 1) v1).wp K U (fun v5 U =>
 (ao aK v5 U).wp K U (fun v6 U =>
 (ak .eql aC true v6 (.str w_)).wp K U (fun v7 U =>
 al v7 (
 aj R (.bool false) U) (
 (ah (some 1) v1).wp K U (fun v9 U =>
 (ao aK v9 U).wp K U (fun v10 U =>
 af K 172 [v10, (.int .i64 0)] U (ar (fun v11 U =>
 (aT v11 0).wp K U (fun v12 U =>
 (aT v11 1).wp K U (fun bD U =>
 (av.c7 [.int .u8 0, .str [], .int .i64 0]).wp K U (fun v3 U =>
 (aQ (some (true, 3)) v3 v12 U).wp K U (fun _ U =>
 (ak .eql aC true bD (.int .i64 0)).wp K U (fun bA U =>
 ad K (aq bA true) (ah (some 0) v3) (fun cg =>
 ad K (aq bA true) (ao aK cg U) (fun bV =>
 ad K (aq bA true) (ah (some 0) v1) (fun cw =>
 ad K (aq bA true) (ao aK cw U) (fun v20 =>
 ad K (aq bA true) (ak .eql aC false bV v20) (fun v21 =>
 (aP bA v21 (.bool false)).wp K U (fun ck U =>
 ad K (aq ck true) (ah (some 1) v3) (fun v24 =>
 ad K (aq ck true) (ao aK v24 U) (fun dV =>
 ad K (aq ck true) (ah (some 1) v1) (fun eB =>
 ad K (aq ck true) (ao aK eB U) (fun dw =>
 ad K (aq ck true) (ak .eql aC false dV dw) (fun v28 =>
 (aP ck v28 (.bool false)).wp K U (fun ct U =>
 aj R ct U) (aa R))))))) (aa R))))))) (aa R)) (aa R)) (aa R)) (aa R)) (aa R)) (aa R))) (aa R)) (aa R))) (aa R)) (aa R)) (aa R)) (aa R)
def V6 : Prop :=
 af K 243 [a0, a1] U (ar (fun v10 U =>
 (ak .geq aC true v10 (.int .i64 0)).wp K U (fun v12 U =>
 al v12 (
 (fun aE : St =>
 az K (dU true none a0 none (some v10)) (fun bA =>
 az K (bw (some true) a1) (fun cw =>
 az K (ak .add aC false v10 cw) (fun v20 =>
 az K (dU true none a0 (some v20) none) (fun v21 =>
 aj R (.aO [bA, v21, (.bool true)]) U))))) U) (
 aj R (.aO [a0, (.str w_), (.bool false)]) U)) (aa R)) (aa R))
def V7 : Prop :=
 af K 246 [a0, a1] U (ar (fun v7 U =>
 (ak .geq aC true v7 (.int .i64 0)).wp K U (fun v8 U =>
 aj R v8 U) (aa R)) (aa R))
def LK : Prop :=
 (ak .eql aC true a0 (.int .u8 32)).wp K U (fun v5 U =>
 ad K (aq v5 false) (av.val a0) (fun v7 =>
 ad K (aq v5 false) (ak .eql aC true v7 (.int .u8 10)) (fun v8 =>
 (aP v5 (.bool true) v8).wp K U (fun v9 U =>
 al v9 (
 aj R (.int .i64 1) U) (
 (ak .lss aC true a0 (.int .u8 32)).wp K U (fun v12 U =>
 ad K (aq v12 false) (av.val a0) (fun bQ =>
 ad K (aq v12 false) (ak .gtr aC true bQ (.int .u8 126)) (fun bA =>
 (aP v12 (.bool true) bA).wp K U (fun cx U =>
 al cx (
 aj R (.int .i64 0) U) (
 (ak .geq aC true a0 (.int .u8 48)).wp K U (fun cw U =>
 ad K (aq cw true) (av.val a0) (fun v21 =>
 ad K (aq cw true) (ak .leq aC true v21 (.int .u8 57)) (fun ck =>
 (aP cw ck (.bool false)).wp K U (fun cR U =>
 al cR (
 aj R (.int .i64 2) U) (
 (ak .geq aC true a0 (.int .u8 97)).wp K U (fun eB U =>
 ad K (aq eB true) (av.val a0) (fun v28 =>
 ad K (aq eB true) (ak .leq aC true v28 (.int .u8 122)) (fun ct =>
 (aP eB ct (.bool false)).wp K U (fun v30 U =>
 al v30 (
 aj R (.int .i64 3) U) (
 (ak .geq aC true a0 (.int .u8 65)).wp K U (fun dF U =>
 ad K (aq dF true) (av.val a0) (fun eD =>
 ad K (aq dF true) (ak .leq aC true eD (.int .u8 90)) (fun fq =>
 (aP dF fq (.bool false)).wp K U (fun v37 U =>
 al v37 (
 aj R (.int .i64 4) U) (
 aj R (.int .i64 5) U)) (aa R)))) (aa R))) (aa R)))) (aa R))) (aa R)))) (aa R))) (aa R)))) (aa R))) (aa R)))) (aa R)
def LM : Prop :=
 (ak .eql aC true a1 (.int .i64 9)).wp K U (fun v12 U =>
 al v12 (
 af K 252 [a0] U (ar (fun bQ U =>
 aj R bQ U) (aa R))) (
 (ak .eql aC true a1 (.int .i64 4)).wp K U (fun cx U =>
 al cx (
 af K 99 [a0, (.int .u8 19)] U (ar (fun bV U =>
 af K 100 [a0, (.str B7)] U (ar (fun v20 U =>
 al v20 (
 af K 219 [a0, (.int .i64 4)] U (ar (fun cR U =>
 (aM (some (87, 1)) (some [.a7]) 1 false [(0, cR)]).wp K U (fun v24 U =>
 af K 103 [bV, v24] U (ar (fun dV U =>
 aj R dV U) (aa R))) (aa R)) (aa R))) (
 (ak .add aC true a1 (.int .i64 1)).wp K U (fun v28 U =>
 af K 219 [a0, v28] U (ar (fun ct U =>
 aj R ct U) (aa R))) (aa R))) (aa R))) (aa R))) (
 (ak .add aC true a1 (.int .i64 1)).wp K U (fun fG U =>
 af K 219 [a0, fG] U (ar (fun dF U =>
 cG 3 [a0, a1, dF] U fun lp v0 v1 v6 U =>
 (fun aE : St =>
 az K (bz v0) (fun fq =>
 az K (ah (some 3) fq) (fun v37 =>
 az K (ao aK v37 aE) (fun fV =>
 az K (fx (some (.i, 185)) (some .jS) fV v1 false aE) (fun v40 =>
 af K 253 [v0] U (ar (fun jY U => cU ((cT fV ++ (cT v1 ++ [])) ++ ((cT v37 ++ []) ++ [])) aE U /\
 (∀ b ∈ cT v40 ++ (cT jY ++ []), b ∈ (cT fV ++ (cT v1 ++ [])) ++ ((cT v37 ++ []) ++ [])) /\
 az K (fx (some (.s, 5)) (some (.int .u8 0)) v40 jY true aE) (fun eI =>
 az K (aT eI 0) (fun nL =>
 az K (aT eI 1) (fun jU =>
 (fi .not jU).wp K U (fun lK U =>
 al lK (
 aj R v6 U) (
 af K 99 [v0, nL] U (ar (fun v51 U =>
 (bz v0).wp K U (fun v53 U =>
 (ah (some 1) v53).wp K U (fun lL U =>
 (ao aK lL U).wp K U (fun iX U =>
 (ak .add aC true iX (.int .i64 1)).wp K U (fun oc U =>
 (bz v0).wp K U (fun kK U =>
 (ah (some 1) kK).wp K U (fun mM U =>
 (aQ aK mM oc U).wp K U (fun _ U =>
 (ak .eql aC true v1 (.int .i64 8)).wp K U (fun sV U =>
 al sV (
 af K 168 [v0] U (ar (fun qJ U =>
 (bz v51).wp K U (fun mN U =>
 (ah (some 0) mN).wp K U (fun sW U =>
 (ah (some 2) sW).wp K U (fun zB U =>
 (aQ aK zB qJ U).wp K U (fun _ U =>
 (aM (some (87, 1)) (some [.a7]) 1 false [(0, v6)]).wp K U (fun zC U =>
 af K 103 [v51, zC] U (ar (fun v70 U =>
 lp v0 v1 v70 U) (aa R))) (aa R)) (aa R)) (aa R)) (aa R)) (aa R)) (aa R))) (
 (ak .add aC true v1 (.int .i64 1)).wp K U (fun v75 U =>
 af K 219 [v0, v75] U (ar (fun v76 U =>
 (aM (some (87, 1)) (some [.a7]) 2 false [(0, v6), (1, v76)]).wp K U (fun oq U =>
 af K 103 [v51, oq] U (ar (fun D7 U =>
 (ak .eql aC true v1 (.int .i64 5)).wp K U (fun v80 U =>
 al v80 (
 aj R D7 U) (
 lp v0 v1 D7 U)) (aa R)) (aa R))) (aa R)) (aa R))) (aa R))) (aa R)) (aa R)) (aa R)) (aa R)) (aa R)) (aa R)) (aa R)) (aa R)) (aa R)))) (aa R))))) (aa R))))))) U) (aa R))) (aa R))) (aa R))) (aa R)
def LO : Prop :=
 cG 3 [a0, a1, a1] U fun lp v0 v1 v5 U =>
 (bw (some true) v0).wp K U (fun v9 U =>
 (ak .lss aC false v5 v9).wp K U (fun v10 U =>
 ad K (aq v10 true) (av.val v0) (fun v12 =>
 ad K (aq v10 true) (av.val v5) (fun bD =>
 ad K (aq v10 true) (ey true none none v12 bD) (fun bQ =>
 ad K (aq v10 true) (av.enter 254 [bQ]) (fun bA =>
 ad K (aq v10 true) (av.val bA) (fun cx =>
 ad K (aq cx false) (av.val v0) (fun cg =>
 ad K (aq cx false) (av.val v5) (fun bV =>
 ad K (aq cx false) (ey true none none cg bV) (fun cw =>
 ad K (aq cx false) (av.enter 224 [cw]) (fun v20 =>
 ad K (aq v10 true) (aP cx (.bool true) v20) (fun v21 =>
 (aP v10 v21 (.bool false)).wp K U (fun ck U =>
 al ck (
 (ak .add aC true v5 (.int .i64 1)).wp K U (fun v24 U =>
 lp v0 v1 v24 U) (aa R)) (
 (dU true none v0 (some v1) (some v5)).wp K U (fun v28 U =>
 aj R v28 U) (aa R))) (aa R)))))))))))) (aa R)) (aa R)
def LQ : Prop :=
 (ak .geq aC true a0 (.int .u8 97)).wp K U (fun v4 U =>
 ad K (aq v4 true) (av.val a0) (fun v6 =>
 ad K (aq v4 true) (ak .leq aC true v6 (.int .u8 122)) (fun v7 =>
 (aP v4 v7 (.bool false)).wp K U (fun v8 U =>
 aj R v8 U) (aa R)))) (aa R)
def LS : Prop :=
 cG 3 [a0, a1, (.int .i64 0)] U fun lp v0 v1 v5 U =>
 (bw (some false) v0).wp K U (fun v8 U =>
 (ak .lss aC false v5 v8).wp K U (fun v9 U =>
 al v9 (
 (aF (some (9, 1)) none v0 v5).wp K U (fun bQ U =>
 (ao aK bQ U).wp K U (fun bA U =>
 (ak .eql aC false bA v1).wp K U (fun cg U =>
 al cg (
 aj R (.bool true) U) (
 (ak .add aC true v5 (.int .i64 1)).wp K U (fun v11 U =>
 lp v0 v1 v11 U) (aa R))) (aa R)) (aa R)) (aa R)) (
 aj R (.bool false) U)) (aa R)) (aa R)
def LV : Prop :=
 (aM (some (9, 1)) (some [.str []]) 30 false [(0, (.str zH)), (1, (.str Eb)), (2, (.str MN)), (3, (.str MO)), (4, (.str oJ)), (5, (.str Q8)), (6, (.str uj)), (7, (.str AE)), (8, (.str kL)), (9, (.str nq)), (10, (.str gl)), (11, (.str Ec)), (12, (.str B6)), (13, (.str kM)), (14, (.str yk)), (15, (.str nr)), (16, (.str qN)), (17, (.str Q9)), (18, (.str mP)), (19, (.str pW)), (20, (.str wP)), (21, (.str B7)), (22, (.str oK)), (23, (.str WI)), (24, (.str Ed)), (25, (.str B8)), (26, (.str jo)), (27, (.str s8)), (28, (.str fR)), (29, (.str oL))]).wp K U (fun v1 U =>
 aj R v1 U) (aa R)
def LX : Prop :=
 (ak .geq aC true a0 (.int .u8 48)).wp K U (fun v4 U =>
 ad K (aq v4 true) (av.val a0) (fun v6 =>
 ad K (aq v4 true) (ak .leq aC true v6 (.int .u8 57)) (fun v7 =>
 (aP v4 v7 (.bool false)).wp K U (fun v8 U =>
 aj R v8 U) (aa R)))) (aa R)
def LZ : Prop :=
 cG 3 [a0, (.int .i64 0), (.int .i64 0)] U fun lp v0 v3 v4 U =>
 (bw (some true) v0).wp K U (fun v7 U =>
 (ak .lss aC false v4 v7).wp K U (fun v8 U =>
 al v8 (
 (ey true none none v0 v4).wp K U (fun bD U =>
 af K 224 [bD] U (ar (fun bQ U =>
 (fi .not bQ).wp K U (fun bA U =>
 ad K (aq bA false) (av.val v4) (fun cg =>
 ad K (aq bA false) (ak .gtr aC true cg (.int .i64 0)) (fun bV =>
 ad K (aq bA false) (av.val bV) (fun cw =>
 ad K (aq cw true) (av.val v0) (fun v20 =>
 ad K (aq cw true) (ey true none none v20 (.int .i64 0)) (fun v21 =>
 ad K (aq cw true) (ak .eql aC true v21 (.int .u8 48)) (fun ck =>
 ad K (aq bA false) (aP cw ck (.bool false)) (fun cR =>
 (aP bA (.bool true) cR).wp K U (fun v24 U =>
 al v24 (
 aj R (.int .i64 4) U) (
 (ak .mul aC true (.int .i64 10) v3).wp K U (fun eB U =>
 (ey true none none v0 v4).wp K U (fun ct U =>
 (ak .sub aC true ct (.int .u8 48)).wp K U (fun v30 U =>
 (ti (some .i64) true false false v30).wp K U (fun v31 U =>
 (ak .add aC false eB v31).wp K U (fun fG U =>
 (rT fG (.int .i64 1000001)).wp K U (fun dF U =>
 (ak .add aC true v4 (.int .i64 1)).wp K U (fun v10 U =>
 lp v0 dF v10 U) (aa R)) (aa R)) (aa R)) (aa R)) (aa R)) (aa R)) (aa R))) (aa R))))))))) (aa R)) (aa R))) (aa R)) (
 (ak .gtr aC true v3 (.int .i64 1000000)).wp K U (fun eD U =>
 al eD (
 aj R (.int .i64 3) U) (
 aj R (.int .i64 0) U)) (aa R))) (aa R)) (aa R)
def L5 : Prop :=
 (aM (some (9, 1)) (some [.str []]) 16 false [(0, (.str cP)), (1, (.str iL)), (2, (.str wN)), (3, (.str wM)), (4, (.str wI)), (5, (.str wK)), (6, (.str wH)), (7, (.str oW)), (8, (.str oX)), (9, (.str pL)), (10, (.str wO)), (11, (.str zG)), (12, (.str wJ)), (13, (.str rC)), (14, (.str wL)), (15, (.str zF))]).wp K U (fun v1 U =>
 aj R v1 U) (aa R)
def L7 : Prop :=
 (bw (some true) a0).wp K U (fun v8 U =>
 (ak .sub aC false v8 a1).wp K U (fun v10 U =>
 (bw (some true) a2).wp K U (fun v12 U =>
 (ak .geq aC false v10 v12).wp K U (fun bD U =>
 ad K (aq bD true) (av.val a0) (fun bA =>
 ad K (aq bD true) (av.val a1) (fun cx =>
 ad K (aq bD true) (av.val a1) (fun cg =>
 ad K (aq bD true) (av.val a2) (fun bV =>
 ad K (aq bD true) (bw (some true) bV) (fun cw =>
 ad K (aq bD true) (ak .add aC false cg cw) (fun v20 =>
 ad K (aq bD true) (dU true none bA (some cx) (some v20)) (fun v21 =>
 ad K (aq bD true) (av.val a2) (fun ck =>
 ad K (aq bD true) (ak .eql aC false v21 ck) (fun cR =>
 (aP bD cR (.bool false)).wp K U (fun v24 U =>
 aj R v24 U) (aa R))))))))))) (aa R)) (aa R)) (aa R)) (aa R)
def Ma : Prop :=
 (bw (some false) a0).wp K U (fun v7 U =>
 cG 4 [a0, a1, v7, (.int .i64 0)] U fun lp v0 v1 nk v8 U =>
 (ak .lss aC false v8 nk).wp K U (fun v9 U =>
 al v9 (
 (aF (some (9, 1)) none v0 v8).wp K U (fun bQ U =>
 (ao aK bQ U).wp K U (fun bA U =>
 (ak .eql aC false v1 bA).wp K U (fun cx U =>
 al cx (
 aj R v8 U) (
 (ak .add aC true v8 (.int .i64 1)).wp K U (fun bV U =>
 lp v0 v1 nk bV U) (aa R))) (aa R)) (aa R)) (aa R)) (
 aj R (.int .i64 (-1)) U)) (aa R)) (aa R)
def Mc : Prop :=
 (bz a0).wp K U (fun v10 U =>
 (ah (some 2) v10).wp K U (fun v11 U =>
 (ao aK v11 U).wp K U (fun v12 U =>
 (vO (some (.i, 185)) v12).wp K U (fun bD U =>
 cG 2 [a1, bD] U fun lp v1 wG U =>
 (pI wG U).wp K U (fun bQ U =>
 (aT bQ 0).wp K U (fun bA U =>
 al bA (
 (mz wG U).wp K U (fun cx U =>
 (aT cx 0).wp K U (fun cg U =>
 (aT cx 1).wp K U (fun bV U =>
 (vO (some (.s, 5)) bV).wp K U (fun v20 U =>
 cG 4 [v1, cg, wG, v20] U fun tH eT v5 zz HD U =>
 (pI HD U).wp K U (fun v21 U =>
 (aT v21 0).wp K U (fun ck U =>
 al ck (
 (mz HD U).wp K U (fun cR U =>
 (aT cR 1).wp K U (fun v24 U =>
 (ak .eql aC false v24 eT).wp K U (fun dw U =>
 al dw (
 aj R v5 U) (
 tH eT v5 zz HD U)) (aa R)) (aa R)) (aa R)) (
 lp eT zz U)) (aa R)) (aa R)) (aa R)) (aa R)) (aa R)) (aa R)) (
 (ak .eql aC true v1 (.int .u8 9)).wp K U (fun v31 U =>
 al v31 (
 aj R (.int .i64 0) U) (
 (ak .eql aC true v1 (.int .u8 19)).wp K U (fun gi U =>
 al gi (
 aj R (.int .i64 4) U) (
 (ak .geq aC true v1 (.int .u8 10)).wp K U (fun v37 U =>
 ad K (aq v37 true) (av.val v1) (fun iJ =>
 ad K (aq v37 true) (ak .leq aC true iJ (.int .u8 16)) (fun v40 =>
 (aP v37 v40 (.bool false)).wp K U (fun jE U =>
 al jE (
 aj R (.int .i64 1) U) (
 aj R (.int .i64 9) U)) (aa R)))) (aa R))) (aa R))) (aa R))) (aa R)) (aa R)) (aa R)) (aa R)) (aa R)) (aa R)
def Me : Prop :=
 (ao aK a1 U).wp K U (fun v5 U =>
 (ak .eql aC false a0 v5).wp K U (fun v6 U =>
 aj R v6 U) (aa R)) (aa R)
def Mg : Prop :=
 (bw (some false) a0).wp K U (fun v7 U =>
 cG 4 [a0, a1, v7, (.int .i64 0)] U fun lp v0 v1 nk v8 U =>
 (ak .lss aC false v8 nk).wp K U (fun v9 U =>
 al v9 (
 (aF (some (178, 1)) none v0 v8).wp K U (fun bQ U =>
 (ao aK bQ U).wp K U (fun bA U =>
 (ak .eql aC false v1 bA).wp K U (fun cx U =>
 al cx (
 aj R v8 U) (
 (ak .add aC true v8 (.int .i64 1)).wp K U (fun bV U =>
 lp v0 v1 nk bV U) (aa R))) (aa R)) (aa R)) (aa R)) (
 aj R (.int .i64 (-1)) U)) (aa R)) (aa R)
def Mi : Prop :=
 (av.BZ).wp K U (fun v10 U =>
 (hZ (some (.s, 5)) v10 (.str fR) (.int .u8 27) U).wp K U (fun _ U =>
 (hZ (some (.s, 5)) v10 (.str gl) (.int .u8 28) U).wp K U (fun _ U =>
 (hZ (some (.s, 5)) v10 (.str jo) (.int .u8 29) U).wp K U (fun _ U =>
 (hZ (some (.s, 5)) v10 (.str kM) (.int .u8 30) U).wp K U (fun _ U =>
 (hZ (some (.s, 5)) v10 (.str mP) (.int .u8 31) U).wp K U (fun _ U =>
 (hZ (some (.s, 5)) v10 (.str oW) (.int .u8 32) U).wp K U (fun _ U =>
 af K 253 [a0] U (ar (fun bA U =>
 (fx (some (.s, 5)) (some (.int .u8 0)) v10 bA true U).wp K U (fun cx U =>
 (aT cx 0).wp K U (fun cg U =>
 (aT cx 1).wp K U (fun bV U =>
 al bV (
 af K 99 [a0, cg] U (ar (fun ck U =>
 (bz a0).wp K U (fun v24 U =>
 (ah (some 1) v24).wp K U (fun dV U =>
 (ao aK dV U).wp K U (fun eB U =>
 (ak .add aC true eB (.int .i64 1)).wp K U (fun dw U =>
 (bz a0).wp K U (fun v28 U =>
 (ah (some 1) v28).wp K U (fun ct U =>
 (aQ aK ct dw U).wp K U (fun _ U =>
 iU 1 (fun v6 U =>
 aj R v6 U) fun j =>
 (ak .eql aC true cg (.int .u8 31)).wp K U (fun v31 U =>
 ad K (aq v31 false) (av.val cg) (fun dF =>
 ad K (aq v31 false) (ak .eql aC true dF (.int .u8 32)) (fun gi =>
 (aP v31 (.bool true) gi).wp K U (fun eD U =>
 al eD (
 af K 101 [a0] U (ar (fun fV U =>
 (bz ck).wp K U (fun iJ U =>
 (ah (some 0) iJ).wp K U (fun v40 U =>
 (ah (some 1) v40).wp K U (fun jE U =>
 (aQ aK jE fV U).wp K U (fun _ U =>
 j ck U) (aa R)) (aa R)) (aa R)) (aa R)) (aa R))) (
 j ck U)) (aa R)))) (aa R)) (aa R)) (aa R)) (aa R)) (aa R)) (aa R)) (aa R)) (aa R)) (aa R))) (
 af K 100 [a0, (.str oX)] U (ar (fun nL U =>
 al nL (
 af K 109 [a0] U (ar (fun v46 U =>
 af K 102 [a0, (.str pL)] U (ar (fun iK U =>
 aj R v46 U) (aa R))) (aa R))) (
 af K 167 [a0, (.int .i64 0)] U (ar (fun v51 U =>
 (qQ (some (0, false, 1)) v51).wp K U (fun jZ U =>
 (ak .eql aC true jZ (.int .u8 2)).wp K U (fun v53 U =>
 al v53 (
 af K 99 [a0, (.int .u8 26)] U (ar (fun iX U =>
 af K 168 [a0] U (ar (fun mM U =>
 (bz iX).wp K U (fun v59 U =>
 (ah (some 0) v59).wp K U (fun sV U =>
 (ah (some 2) sV).wp K U (fun uI U =>
 (aQ aK uI mM U).wp K U (fun _ U =>
 aj R iX U) (aa R)) (aa R)) (aa R)) (aa R)) (aa R))) (aa R))) (
 af K 99 [a0, (.int .u8 33)] U (ar (fun mN U =>
 af K 101 [a0] U (ar (fun mO U =>
 (bz mN).wp K U (fun qK U =>
 (ah (some 0) qK).wp K U (fun zC U =>
 (ah (some 1) zC).wp K U (fun v70 U =>
 (aQ aK v70 mO U).wp K U (fun _ U =>
 iU 1 (fun v9 U =>
 aj R v9 U) fun Ja =>
 af K 100 [a0, (.str oX)] U (ar (fun v72 U =>
 al v72 (
 (bz mN).wp K U (fun qM U =>
 (ah (some 0) qM).wp K U (fun v75 U =>
 (ah (some 0) v75).wp K U (fun v76 U =>
 (aQ aK v76 (.int .u8 34) U).wp K U (fun _ U =>
 af K 106 [a0, mN, (.func (.func 269) [a0] [])] U (ar (fun D8 U =>
 af K 102 [a0, (.str pL)] U (ar (fun D9 U =>
 Ja mN U) (aa R))) (aa R))) (aa R)) (aa R)) (aa R)) (aa R)) (
 Ja mN U)) (aa R))) (aa R)) (aa R)) (aa R)) (aa R)) (aa R))) (aa R)))) (aa R)) (aa R)) (aa R)))) (aa R)))) (aa R)) (aa R)) (aa R)) (aa R))) (aa R)) (aa R)) (aa R)) (aa R)) (aa R)) (aa R)) (aa R)
def Ml : Prop :=
 af K 167 [a0, (.int .i64 0)] U (ar (fun v5 U =>
 (av.c7 [.int .u8 0, .str [], .int .i64 0]).wp K U (fun v3 U =>
 (aQ (some (true, 3)) v3 v5 U).wp K U (fun _ U =>
 (ah (some 0) v3).wp K U (fun v6 U =>
 (ao aK v6 U).wp K U (fun v7 U =>
 (ak .eql aC true v7 (.int .u8 3)).wp K U (fun v8 U =>
 ad K (aq v8 false) (ah (some 0) v3) (fun v10 =>
 ad K (aq v8 false) (ao aK v10 U) (fun v11 =>
 ad K (aq v8 false) (ak .eql aC true v11 (.int .u8 4)) (fun v12 =>
 (aP v8 (.bool true) v12).wp K U (fun bD U =>
 al bD (
 (ah (some 1) v3).wp K U (fun bQ U =>
 (ao aK bQ U).wp K U (fun bA U =>
 aj R bA U) (aa R)) (aa R)) (
 aj R (.str w_) U)) (aa R))))) (aa R)) (aa R)) (aa R)) (aa R)) (aa R)) (aa R))
def Mn : Prop :=
 af K 221 [a0] U (ar (fun v4 U =>
 ad K (aq v4 false) (av.val a0) (fun v6 =>
 ad K (aq v4 false) (ak .geq aC true v6 (.int .u8 65)) (fun v7 =>
 ad K (aq v4 false) (av.val v7) (fun v8 =>
 ad K (aq v8 true) (av.val a0) (fun v9 =>
 ad K (aq v8 true) (ak .leq aC true v9 (.int .u8 90)) (fun v10 =>
 ad K (aq v4 false) (aP v8 v10 (.bool false)) (fun v11 =>
 (aP v4 (.bool true) v11).wp K U (fun v12 U =>
 aj R v12 U) (aa R)))))))) (aa R))
def Mp : Prop :=
 (aM (some (9, 1)) (some [.str []]) 1 false [(0, (.str Ec))]).wp K U (fun v7 U =>
 af K 105 [a0, v7] U (ar (fun v8 U =>
 al v8 (
 af K 99 [a0, (.int .u8 35)] U (ar (fun v10 U =>
 af K 102 [a0, (.str Ec)] U (ar (fun v12 U =>
 af K 102 [a0, (.str oX)] U (ar (fun bQ U =>
 af K 106 [a0, v10, (.func (.func 278) [a0] [])] U (ar (fun cw U =>
 af K 102 [a0, (.str pL)] U (ar (fun v21 U =>
 af K 169 [a0] U (ar (fun v24 U =>
 (aM (some (87, 1)) (some [.a7]) 1 false [(0, v24)]).wp K U (fun dV U =>
 af K 103 [v10, dV] U (ar (fun eB U =>
 aj R eB U) (aa R))) (aa R)) (aa R))) (aa R))) (aa R))) (aa R))) (aa R))) (aa R))) (
 (aM (some (9, 1)) (some [.str []]) 1 false [(0, (.str wO))]).wp K U (fun ct U =>
 af K 105 [a0, ct] U (ar (fun v30 U =>
 al v30 (
 af K 99 [a0, (.int .u8 36)] U (ar (fun fG U =>
 af K 102 [a0, (.str wO)] U (ar (fun gi U =>
 af K 102 [a0, (.str B6)] U (ar (fun fq U =>
 af K 169 [a0] U (ar (fun iJ U =>
 (aM (some (87, 1)) (some [.a7]) 1 false [(0, iJ)]).wp K U (fun v40 U =>
 af K 103 [fG, v40] U (ar (fun jE U =>
 af K 102 [a0, (.str rC)] U (ar (fun eI U =>
 af K 102 [a0, (.str B8)] U (ar (fun jU U =>
 af K 278 [a0] U (ar (fun iK U =>
 (aM (some (87, 1)) (some [.a7]) 1 false [(0, iK)]).wp K U (fun v49 U =>
 af K 103 [fG, v49] U (ar (fun mc U =>
 af K 102 [a0, (.str zF)] U (ar (fun jZ U =>
 af K 169 [a0] U (ar (fun iX U =>
 (aM (some (87, 1)) (some [.a7]) 1 false [(0, iX)]).wp K U (fun oc U =>
 af K 103 [fG, oc] U (ar (fun kK U =>
 af K 102 [a0, (.str zG)] U (ar (fun v59 U =>
 aj R fG U) (aa R))) (aa R))) (aa R)) (aa R))) (aa R))) (aa R))) (aa R)) (aa R))) (aa R))) (aa R))) (aa R))) (aa R)) (aa R))) (aa R))) (aa R))) (aa R))) (
 af K 109 [a0] U (ar (fun pz U =>
 aj R pz U) (aa R)))) (aa R))) (aa R))) (aa R))) (aa R)
def Mr : Prop :=
 af K 99 [a0, (.int .u8 37)] U (ar (fun v5 U =>
 af K 101 [a0] U (ar (fun v8 U =>
 (bz v5).wp K U (fun v9 U =>
 (ah (some 0) v9).wp K U (fun v10 U =>
 (ah (some 1) v10).wp K U (fun v11 U =>
 (aQ aK v11 v8 U).wp K U (fun _ U =>
 aj R v5 U) (aa R)) (aa R)) (aa R)) (aa R)) (aa R))) (aa R))
end
section
variable {a0 a1 a2 a3 a4 a5 a6 : AV} {R : cB -> St -> Prop} {U : St}
theorem KV (h : KU a0 a1 R U) : af K 154 [a0, a1] U R := bh Tryz.f154 Ta h
theorem KX (h : KW a0 a1 a2 a3 R U) : af K 155 [a0, a1, a2, a3] U R := bh Tryz.f155 Tb h
theorem KZ (h : KY a0 R U) : af K 158 [a0] U R := bh Tryz.f158 Tc h
theorem K3 (h : K2 a0 R U) : af K 159 [a0] U R := bh Tryz.f159 Td h
theorem K5 (h : K4 a0 R U) : af K 160 [a0] U R := bh Tryz.f160 Te h
theorem K7 (h : K6 a0 R U) : af K 161 [a0] U R := bh Tryz.f161 Tf h
theorem K9 (h : K8 a0 R U) : af K 162 [a0] U R := bh Tryz.f162 Tg h
theorem Lb (h : La a0 R U) : af K 163 [a0] U R := bh Tryz.f163 Th h
theorem Ld (h : Lc a0 R U) : af K 164 [a0] U R := bh Tryz.f164 Ti h
theorem Lf (h : VY a0 a1 R U) : af K 165 [a0, a1] U R := bh Tryz.f165 Tj h
theorem Lg (h : VZ a0 R U) : af K 166 [a0] U R := bh Tryz.f166 Tl h
theorem Li (h : Lh a0 a1 R U) : af K 167 [a0, a1] U R := bh Tryz.f167 Tm h
theorem Lj (h : V4 a0 R U) : af K 168 [a0] U R := bh Tryz.f168 Tn h
theorem Ll (h : Lk a0 R U) : af K 169 [a0] U R := bh Tryz.f169 To h
theorem Ln (h : Lm a0 a1 R U) : af K 172 [a0, a1] U R := bh Tryz.f172 Tp h
theorem Lo (h : V5 a0 a1 R U) : af K 178 [a0, a1] U R := bh Tryz.f178 Tq h
theorem Lq (h : Lp a0 R U) : af K 179 [a0] U R := bh Tryz.f179 Tr h
theorem Ls (h : Lr a0 R U) : af K 181 [a0] U R := bh Tryz.f181 Ts h
theorem Lu (h : Lt a0 R U) : af K 185 [a0] U R := bh Tryz.f185 Tt h
theorem Lw (h : Lv a0 R U) : af K 191 [a0] U R := bh Tryz.f191 Tu h
theorem Ly (h : Lx a0 R U) : af K 206 [a0] U R := bh Tryz.f206 Tv h
theorem LA (h : Lz a0 R U) : af K 207 [a0] U R := bh Tryz.f207 Tw h
theorem LC (h : LB a0 R U) : af K 208 [a0] U R := bh Tryz.f208 Tx h
theorem LG (h : LF a0 a1 R U) : af K 209 [a0, a1] U R := bh Tryz.f209 Ty h
theorem BB (h : DS a0 a1 R U) : af K 210 [a0, a1] U R := bh Tryz.f210 Tz h
theorem LI (h : LH a0 R U) : af K 211 [a0] U R := bh Tryz.f211 TA h
theorem BC (h : V6 a0 a1 R U) : af K 212 [a0, a1] U R := bh Tryz.f212 TB h
theorem LJ (h : V7 a0 a1 R U) : af K 215 [a0, a1] U R := bh Tryz.f215 TC h
theorem LL (h : LK a0 R U) : af K 216 [a0] U R := bh Tryz.f216 TD h
theorem LN (h : LM a0 a1 R U) : af K 219 [a0, a1] U R := bh Tryz.f219 TE h
theorem LP (h : LO a0 a1 R U) : af K 220 [a0, a1] U R := bh Tryz.f220 TF h
theorem LR (h : LQ a0 R U) : af K 221 [a0] U R := bh Tryz.f221 TG h
theorem LU (h : LS a0 a1 R U) : af K 222 [a0, a1] U R := bh Tryz.f222 TH h
theorem LW (h : LV R U) : af K 223 [] U R := bh Tryz.f223 TJ h
theorem LY (h : LX a0 R U) : af K 224 [a0] U R := bh Tryz.f224 TK h
theorem L0 (h : LZ a0 R U) : af K 225 [a0] U R := bh Tryz.f225 TL h
theorem L6 (h : L5 R U) : af K 226 [] U R := bh Tryz.f226 TM h
theorem L9 (h : L7 a0 a1 a2 R U) : af K 227 [a0, a1, a2] U R := bh Tryz.f227 TN h
theorem Mb (h : Ma a0 a1 R U) : af K 230 [a0, a1] U R := bh Tryz.f230 TO h
theorem Md (h : Mc a0 a1 R U) : af K 236 [a0, a1] U R := bh Tryz.f236 TP h
theorem Mf (h : Me a0 a1 R U) : af K 242 [a0, a1] U R := bh Tryz.f242 TQ h
theorem Mh (h : Mg a0 a1 R U) : af K 246 [a0, a1] U R := bh Tryz.f246 TR h
theorem Mj (h : Mi a0 R U) : af K 252 [a0] U R := bh Tryz.f252 TS h
theorem Mm (h : Ml a0 R U) : af K 253 [a0] U R := bh Tryz.f253 TT h
theorem Mo (h : Mn a0 R U) : af K 254 [a0] U R := bh Tryz.f254 TU h
theorem Mq (h : Mp a0 R U) : af K 269 [a0] U R := bh Tryz.f269 TV h
theorem Ms (h : Mr a0 R U) : af K 278 [a0] U R := bh Tryz.f278 TW h
end
end Go.Rip
