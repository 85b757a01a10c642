/- Lemmas for the proof: no conditions. -/
import Derived.Test.YtnfpmiiopiinbaaGreatDoorRipZz
import Derived.Test.YtnfpmiiopiinbaaGreatDoorRipD
set_option linter.unusedVariables false
set_option linter.unusedSimpArgs false
set_option linter.loopingSimpArgs false
set_option maxRecDepth 100000
namespace Go.Rip
open Go.Proofs
def S8 : An := ah (.bk (.lp [0, 2, 3, 5] (aO (ah (.cd .z .z)) (aO (.bk (ah (.cd .z .z))) di))))
def S9 : An := ah (ah (aO (ah (.bk (.lp [0, 3, 8, 9, 10] (ah (aO (.cd .z .z) (aO (.bk (ah (ah di))) di)))))) (ah .z)))
def Ta : An := ah (ah (aO (ah (.bk (.lp [0, 3, 8, 9, 10] (ah (aO (.cd .z .z) (aO (.bk (ah (ah di))) di)))))) (ah .z)))
def Tb : An := ah (ah (ah (ah (ah (ah (ah (ah (ah (ah .z)))))))))
def Tc : An := ah (ah (ah (ah (ah (ah (ah (ah .z)))))))
def Td : An := ah (ah (ah (ah (ah (ah .z)))))
def Te : An := ah (ah (ah (ah (ah (ah (ah (ah .z)))))))
def Tf : An := ah (aO (aO (.rg [] [] (some ⟨[(true, 0), (true, 1), (true, 2), (true, 3), (true, 4), (true, 5), (true, 6), (true, 7), (true, 8), (true, 9)], [⟨8, 1, 0⟩, ⟨16, 8, 1⟩, ⟨32, 16, 2⟩, ⟨64, 32, 4⟩, ⟨128, 1, 0⟩, ⟨256, 128, 16⟩, ⟨512, 256, 32⟩, ⟨1024, 512, 64⟩, ⟨2048, 1024, 128⟩, ⟨4096, 2112, 264⟩]⟩)) (.cd (aO (.rg [] [] (some ⟨[(true, 0), (true, 1), (true, 2), (true, 3), (true, 4), (true, 5), (true, 6), (true, 7), (true, 8), (true, 9), (true, 10), (true, 11)], [⟨8192, 1, 0⟩, ⟨16384, 8192, 1⟩, ⟨32768, 16384, 2⟩, ⟨65536, 32768, 4⟩, ⟨131072, 1, 0⟩, ⟨262144, 131072, 16⟩, ⟨524288, 262144, 32⟩, ⟨1048576, 524288, 64⟩, ⟨2097152, 1114112, 136⟩, ⟨4194304, 2097152, 256⟩, ⟨8388608, 4194304, 512⟩, ⟨4, 8388608, 2047⟩]⟩)) .z) .z)) (ah .z))
def Tg : An := ah (ah (.sq (some [0, 5]) (ah (.cd di .z)) (ah (ah .z))))
def Th : An := di
def Ti : An := ah (aO (aO (.rg [] [] (some ⟨[(true, 0), (true, 1), (true, 2), (true, 3), (true, 4), (true, 5), (true, 6), (true, 7), (true, 8), (true, 9), (true, 10), (true, 11)], [⟨32, 1, 0⟩, ⟨64, 32, 1⟩, ⟨128, 64, 2⟩, ⟨256, 128, 4⟩, ⟨512, 2, 0⟩, ⟨1024, 768, 24⟩, ⟨2048, 1, 0⟩, ⟨4096, 2048, 64⟩, ⟨8192, 4096, 128⟩, ⟨16384, 8192, 256⟩, ⟨32768, 16384, 512⟩, ⟨65536, 33792, 1056⟩]⟩)) (.cd (aO (.rg [] [] (some ⟨[(true, 0), (true, 1), (true, 2), (true, 3), (true, 4), (true, 5), (true, 6), (true, 7), (true, 8), (true, 9), (true, 10), (true, 11), (false, 12)], [⟨131072, 1, 0⟩, ⟨262144, 131072, 1⟩, ⟨524288, 262144, 2⟩, ⟨1048576, 524288, 4⟩, ⟨2097152, 1, 0⟩, ⟨4194304, 2097152, 16⟩, ⟨8388608, 4194304, 32⟩, ⟨16777216, 8388608, 64⟩, ⟨33554432, 2, 0⟩, ⟨67108864, 50331648, 384⟩, ⟨134217728, 68157440, 520⟩, ⟨268435456, 134217728, 1024⟩, ⟨0, 268435472, 4095⟩]⟩)) .z) .z)) (ah .z))
def Tj : An := ah (ah (.sq (some [3]) (ah (.cd di .z)) (ah .z)))
def Tl : An := ah (ah (aO (aO (.rg [] [] (some ⟨[(true, 0), (true, 1), (true, 2), (true, 3), (true, 4), (true, 5), (true, 6), (true, 7), (true, 8), (true, 9), (true, 10), (true, 11)], [⟨1024, 1, 0⟩, ⟨2048, 1024, 1⟩, ⟨4096, 2048, 2⟩, ⟨8192, 4096, 4⟩, ⟨16384, 8, 0⟩, ⟨32768, 16384, 16⟩, ⟨65536, 40960, 40⟩, ⟨512, 65536, 64⟩, ⟨131072, 512, 128⟩, ⟨262144, 512, 128⟩, ⟨16, 131072, 511⟩, ⟨32, 262144, 2047⟩]⟩)) (ah (.cd (ah .z) .z))) (aO (.sq (some [0, 36]) (.rg [] [121] none) (.cd (ah (ah (ah (ah .z)))) .z)) (ah .z))))
def Tm : An := ah (ah (aO (.bk (aO (.rg [] [221] none) (.cd (aO (ah (.cd (ah .z) .z)) (aO (ah (.cd (ah .z) .z)) (ah .z))) (aO (.rg [] [224] none) (.cd (aO (ah (ah (.cd (ah .z) .z))) (ah .z)) .z))))) (ah (aO (ah (.bk (.lp [0, 1, 4, 8, 9] (aO (ah (.cd .z .z)) (aO (.bk (ah (.cd (ah .z) .z))) di))))) (ah .z)))))
def Tn : An := ah (ah .z)
def To : An := ah (ah .z)
def Tp : An := ah (ah .z)
def Tq : An := ah (ah .z)
def Tr : An := ah (ah .z)
def Ts : An := ah (ah .z)
def Tt : An := ah (ah .z)
def Tu : An := ah (ah (ah .z))
def Tv : An := ah (aO (ah (.bk (.lp [0, 1, 11, 12, 13] (ah (aO (.cd .z .z) (aO (.bk (ah (ah (aO (ah (.bk (.lp [0, 1, 6, 7, 11, 12, 13, 21, 22, 23] (ah (aO (.cd .z .z) (aO (.bk (ah di)) di)))))) (ah (aO (.bk (.lp [0, 1, 6, 7, 10, 11, 12, 13] (aO (.sq (some [0, 1, 6, 7, 10, 11, 12, 13, 52]) (.rg [] [] (some ⟨[(true, 0), (true, 1), (true, 2), (true, 3), (true, 4), (true, 5), (true, 6), (true, 7), (true, 8), (true, 9), (true, 10), (true, 11), (true, 12), (true, 13), (true, 14), (true, 15), (true, 16), (true, 17), (true, 18), (false, 19), (true, 20)], [⟨4294967296, 1024, 0⟩, ⟨8589934592, 1, 0⟩, ⟨17179869184, 8589934592, 2⟩, ⟨34359738368, 128, 0⟩, ⟨68719476736, 51539607552, 12⟩, ⟨137438953472, 73014444032, 17⟩, ⟨274877906944, 137438953472, 32⟩, ⟨549755813888, 274877907968, 64⟩, ⟨1099511627776, 274877907008, 64⟩, ⟨2199023255552, 1374389534720, 320⟩, ⟨4398046511104, 3023656976384, 704⟩, ⟨8796093022208, 4672924418048, 1088⟩, ⟨17592186044416, 8796093022208, 2112⟩, ⟨35184372088832, 17592186044480, 4096⟩, ⟨70368744177664, 52776558133248, 12288⟩, ⟨140737488355328, 17592186044417, 4096⟩, ⟨281474976710656, 17592186045440, 4096⟩, ⟨562949953421312, 439804651110400, 102400⟩, ⟨1125899906842624, 580542139465728, 135168⟩, ⟨2251799813685248, 1213860837064704, 282624⟩, ⟨4503599627370496, 2269391999729664, 528384⟩]⟩)) (.cd .z .z)) (.bk di)))) (aO (ah (.cd (ah .z) .z)) di))))))) di)))))) (ah .z))
def Tw : An := ah (aO (ah (.bk (.lp [0, 1, 7, 8] (ah (aO (.cd .z .z) (aO (.bk (ah (ah (.cd (ah .z) .z)))) di)))))) (ah .z))
def Tx : An := ah (aO (ah (.cd (ah .z) .z)) (ah (ah .z)))
def Ty : An := ah (aO (ah (ah (.cd (aO (.rg [] [] (some ⟨[(true, 0), (true, 1), (true, 2), (true, 3), (true, 4), (true, 5), (true, 6), (true, 7), (true, 8), (true, 9), (true, 10), (true, 11)], [⟨8192, 1, 0⟩, ⟨16384, 128, 0⟩, ⟨32768, 24576, 3⟩, ⟨65536, 1, 0⟩, ⟨131072, 128, 0⟩, ⟨262144, 2, 0⟩, ⟨524288, 262144, 32⟩, ⟨1048576, 655360, 80⟩, ⟨2097152, 1114112, 136⟩, ⟨16, 32768, 7⟩, ⟨32, 2097152, 1023⟩, ⟨64, 0, 2047⟩]⟩)) .z) .z))) (ah .z))
def Tz : An := ah (ah .z)
def TA : An := ah (aO (.bk (ah (.cd (ah .z) (ah (.cd (ah .z) (ah (.cd (ah .z) (ah (.cd (ah .z) (ah (.cd (ah .z) .z))))))))))) (ah .z))
def TB : An := ah (aO (ah (.bk (ah (.cd (ah .z) (ah (.cd (aO (ah (ah (.cd (ah .z) .z))) (ah .z)) .z)))))) (ah (.bk (.lp [0, 1, 6] (.bk (aO (.rg [] [] (some ⟨[(true, 0), (true, 1), (true, 2), (true, 3), (true, 4), (true, 5), (true, 6), (false, 7), (true, 8), (true, 9), (true, 10), (true, 11), (true, 12), (true, 13)], [⟨34359738368, 1, 0⟩, ⟨68719476736, 34359738368, 1⟩, ⟨137438953472, 68719476736, 2⟩, ⟨274877906944, 137438953472, 4⟩, ⟨549755813888, 2, 0⟩, ⟨1099511627776, 824633720832, 24⟩, ⟨2199023255552, 1, 0⟩, ⟨4398046511104, 2199023255552, 64⟩, ⟨8796093022208, 5497558138880, 160⟩, ⟨17179869184, 8796093022208, 256⟩, ⟨17592186044416, 17179869184, 512⟩, ⟨35184372088832, 17179869184, 512⟩, ⟨128, 17592186044416, 2047⟩, ⟨256, 35184372088832, 8191⟩]⟩)) (aO (ah (.cd (ah .z) .z)) (ah (ah (aO (ah (.cd (ah (ah .z)) .z)) (ah (ah (.cd (ah .z) .z)))))))))))))
def TC : An := ah (ah (aO (.bk (.lp [0, 1, 5] (aO (aO (.rg [] [224, 254] none) (.cd .z .z)) (.bk di)))) (ah .z)))
def TD : An := ah (ah .z)
def TE : An := ah (aO (ah (.bk (.lp [0, 1, 5] (aO (ah (.cd .z .z)) (aO (.bk (ah (.cd (ah .z) .z))) di))))) (ah .z))
def TF : An := ah (ah .z)
def TG : An := ah (ah .z)
def TH : An := ah (ah (aO (ah (.bk (.lp [0, 3, 4] (aO (ah (.cd .z .z)) (aO (.bk (aO (ah (.cd (ah .z) .z)) di)) di))))) (aO (ah (.cd (ah .z) .z)) (ah .z))))
def TJ : An := ah (ah .z)
def TK : An := ah (ah .z)
def TL : An := ah (aO (ah (.bk (.lp [0, 1, 7, 8] (ah (aO (.cd .z .z) (aO (.bk (ah (ah (.cd (ah .z) .z)))) di)))))) (ah .z))
def TM : An := ah (aO (ah (.bk (.lp [1, 13] (ah (aO (.cd .z .z) (.bk (ah (ah (.bk (.lp [1, 5, 13, 20] (ah (aO (.cd .z .z) (.bk (ah (ah (.cd (ah .z) .z)))))))))))))))) (aO (.bk (ah (.cd (ah .z) (ah (.cd (ah .z) (ah (.cd (ah .z) .z))))))) (ah .z)))
def TN : An := ah (ah .z)
def TO : An := ah (aO (ah (.bk (.lp [0, 1, 7, 8] (ah (aO (.cd .z .z) (aO (.bk (ah (ah (.cd (ah .z) .z)))) di)))))) (ah .z))
def TP : An := ah (ah (aO (ah (ah (.cd (ah (ah (.sq (some [6]) (ah (.cd di .z)) (ah .z)))) .z))) (aO (ah (.cd (ah (ah (ah .z))) .z)) (aO (ah (.cd (ah (ah (ah .z))) .z)) (ah (ah (.sq (some [9]) (ah (.cd (ah (ah di)) .z)) (ah .z))))))))
def TQ : An := ah (aO (ah (ah (.cd (ah .z) .z))) (ah .z))
def TR : An := ah (ah .z)
def TS : An := ah (aO (.bk (ah (.cd (ah (ah (ah (ah (ah (ah .z)))))) (ah (.cd (ah (ah (ah (ah (ah (ah (ah (ah (ah (ah (ah .z))))))))))) .z))))) (ah .z))
def TT : An := ah (ah (ah (ah .z)))
section
variable (a0 a1 a2 a3 a4 a5 a6 : AV) (R : cB -> St -> Prop) (U : St)
def K7 : Prop :=
 (aq aK a1 U).wp K U (fun v6 U =>
 (ak .add aE true v6 (.int .i64 1)).wp K U (fun v7 U =>
 cL 4 [a0, a2, a3, v7] U fun lp v0 v2 v3 v5 U =>
 (aq aK v2 U).wp K U (fun v9 U =>
 (ak .lss aE false v5 v9).wp K U (fun v10 U =>
 ad K (ar v10 true) (ag (some 0) v3) (fun v12 =>
 ad K (ar v10 true) (ag (some 0) v12) (fun bF =>
 ad K (ar v10 true) (aq aK bF U) (fun bP =>
 ad K (ar v10 true) (av.val v5) (fun bA =>
 ad K (ar v10 true) (aG (some (43, 6)) none bP bA) (fun cM =>
 ad K (ar v10 true) (ag (some 5) cM) (fun ca =>
 ad K (ar v10 true) (aq aK ca U) (fun cg =>
 ad K (ar v10 true) (ak .gtr aE true cg (.int .i64 0)) (fun cH =>
 (aR v10 cH (.bool false)).wp K U (fun v20 U =>
 ao v20 (
 (fY K.P v0 [v5]).wp K U (fun fF U =>
 (fo .not fF).wp K U (fun dL U =>
 ao dL (
 aj R (.aQ []) U) (
 (ag (some 0) v3).wp K U (fun cn U =>
 (ag (some 0) cn).wp K U (fun cX U =>
 (aq aK cX U).wp K U (fun v24 U =>
 (aG (some (43, 6)) none v24 v5).wp K U (fun dK U =>
 (ag (some 5) dK).wp K U (fun dx U =>
 (aq aK dx U).wp K U (fun v28 U =>
 (ak .add aE false v5 v28).wp K U (fun cz U =>
 lp v0 v2 v3 cz U) (aa R)) (aa R)) (aa R)) (aa R)) (aa R)) (aa R)) (aa R))) (aa R)) (aa R)) (
 aj R (.aQ []) U)) (aa R)))))))))) (aa R)) (aa R)) (aa R)) (aa R)
def K9 : Prop :=
 af K 99 [a0, (.int .u8 10)] U (au (fun v7 U =>
 (aP (some (9, 1)) (some [.str []]) 3 false [(0, (.str yd)), (1, (.str te)), (2, (.str kP))]).wp K U (fun v8 U =>
 (bB (some false) v8).wp K U (fun v9 U =>
 cL 5 [a0, v7, v8, v9, (.int .i64 0)] U fun lp v0 v3 eU oq v10 U =>
 (ak .lss aE false v10 oq).wp K U (fun v11 U =>
 ao v11 (
 (aG (some (9, 1)) none eU v10).wp K U (fun v12 U =>
 (aq aK v12 U).wp K U (fun bF U =>
 af K 102 [v0, bF] U (au (fun cM U =>
 af K 169 [v0] U (au (fun cH U =>
 (aP (some (87, 1)) (some [.a7]) 1 false [(0, cH)]).wp K U (fun v20 U =>
 af K 103 [v3, v20] U (au (fun v21 U =>
 (ak .add aE true v10 (.int .i64 1)).wp K U (fun cn U =>
 lp v0 v3 eU oq cn U) (aa R)) (aa R))) (aa R)) (aa R))) (aa R))) (aa R)) (aa R)) (
 aj R v3 U)) (aa R)) (aa R)) (aa R)) (aa R))
def Lb : Prop :=
 af K 99 [a0, (.int .u8 11)] U (au (fun v7 U =>
 (aP (some (9, 1)) (some [.str []]) 2 false [(0, (.str oU)), (1, (.str At))]).wp K U (fun v8 U =>
 (bB (some false) v8).wp K U (fun v9 U =>
 cL 5 [a0, v7, v8, v9, (.int .i64 0)] U fun lp v0 v3 eU oq v10 U =>
 (ak .lss aE false v10 oq).wp K U (fun v11 U =>
 ao v11 (
 (aG (some (9, 1)) none eU v10).wp K U (fun v12 U =>
 (aq aK v12 U).wp K U (fun bF U =>
 af K 102 [v0, bF] U (au (fun cM U =>
 af K 169 [v0] U (au (fun cH U =>
 (aP (some (87, 1)) (some [.a7]) 1 false [(0, cH)]).wp K U (fun v20 U =>
 af K 103 [v3, v20] U (au (fun v21 U =>
 (ak .add aE true v10 (.int .i64 1)).wp K U (fun cn U =>
 lp v0 v3 eU oq cn U) (aa R)) (aa R))) (aa R)) (aa R))) (aa R))) (aa R)) (aa R)) (
 aj R v3 U)) (aa R)) (aa R)) (aa R)) (aa R))
def Ld : Prop :=
 af K 99 [a0, (.int .u8 12)] U (au (fun v5 U =>
 af K 102 [a0, (.str wO)] U (au (fun v7 U =>
 af K 101 [a0] U (au (fun v10 U =>
 (bC v5).wp K U (fun v11 U =>
 (ag (some 0) v11).wp K U (fun v12 U =>
 (ag (some 1) v12).wp K U (fun bF U =>
 (aM aK bF v10 U).wp K U (fun _ U =>
 af K 102 [a0, (.str wJ)] U (au (fun bA U =>
 af K 168 [a0] U (au (fun cg U =>
 (bC v5).wp K U (fun cH U =>
 (ag (some 0) cH).wp K U (fun v20 U =>
 (ag (some 2) v20).wp K U (fun v21 U =>
 (aM aK v21 cg U).wp K U (fun _ U =>
 af K 102 [a0, (.str cV)] U (au (fun cX U =>
 af K 168 [a0] U (au (fun dK U =>
 (bC v5).wp K U (fun dx U =>
 (ag (some 0) dx).wp K U (fun v28 U =>
 (ag (some 3) v28).wp K U (fun cz U =>
 (aM aK cz dK U).wp K U (fun _ U =>
 af K 102 [a0, (.str qU)] U (au (fun v31 U =>
 af K 169 [a0] U (au (fun fG U =>
 (aP (some (87, 1)) (some [.a7]) 1 false [(0, fG)]).wp K U (fun eF U =>
 af K 103 [v5, eF] U (au (fun eX U =>
 aj R eX U) (aa R))) (aa R)) (aa R))) (aa R))) (aa R)) (aa R)) (aa R)) (aa R)) (aa R))) (aa R))) (aa R)) (aa R)) (aa R)) (aa R)) (aa R))) (aa R))) (aa R)) (aa R)) (aa R)) (aa R)) (aa R))) (aa R))) (aa R))
def Lg : Prop :=
 af K 99 [a0, (.int .u8 13)] U (au (fun v5 U =>
 af K 102 [a0, (.str qe)] U (au (fun v7 U =>
 af K 101 [a0] U (au (fun v10 U =>
 (bC v5).wp K U (fun v11 U =>
 (ag (some 0) v11).wp K U (fun v12 U =>
 (ag (some 1) v12).wp K U (fun bF U =>
 (aM aK bF v10 U).wp K U (fun _ U =>
 af K 102 [a0, (.str qU)] U (au (fun bA U =>
 af K 169 [a0] U (au (fun cg U =>
 (aP (some (87, 1)) (some [.a7]) 1 false [(0, cg)]).wp K U (fun cH U =>
 af K 103 [v5, cH] U (au (fun v20 U =>
 af K 102 [a0, (.str kP)] U (au (fun cn U =>
 af K 169 [a0] U (au (fun ek U =>
 (aP (some (87, 1)) (some [.a7]) 1 false [(0, ek)]).wp K U (fun dK U =>
 af K 103 [v5, dK] U (au (fun dx U =>
 aj R dx U) (aa R))) (aa R)) (aa R))) (aa R))) (aa R))) (aa R)) (aa R))) (aa R))) (aa R)) (aa R)) (aa R)) (aa R)) (aa R))) (aa R))) (aa R))
def Li : Prop :=
 af K 99 [a0, (.int .u8 15)] U (au (fun v5 U =>
 af K 102 [a0, (.str oR)] U (au (fun v7 U =>
 af K 169 [a0] U (au (fun v10 U =>
 (aP (some (87, 1)) (some [.a7]) 1 false [(0, v10)]).wp K U (fun v11 U =>
 af K 103 [v5, v11] U (au (fun v12 U =>
 af K 102 [a0, (.str kP)] U (au (fun bP U =>
 af K 169 [a0] U (au (fun ca U =>
 (aP (some (87, 1)) (some [.a7]) 1 false [(0, ca)]).wp K U (fun cg U =>
 af K 103 [v5, cg] U (au (fun cH U =>
 aj R cH U) (aa R))) (aa R)) (aa R))) (aa R))) (aa R))) (aa R)) (aa R))) (aa R))) (aa R))
def Lk : Prop :=
 af K 99 [a0, (.int .u8 14)] U (au (fun v5 U =>
 af K 102 [a0, (.str oT)] U (au (fun v7 U =>
 af K 101 [a0] U (au (fun v10 U =>
 (bC v5).wp K U (fun v11 U =>
 (ag (some 0) v11).wp K U (fun v12 U =>
 (ag (some 1) v12).wp K U (fun bF U =>
 (aM aK bF v10 U).wp K U (fun _ U =>
 af K 102 [a0, (.str cV)] U (au (fun bA U =>
 af K 168 [a0] U (au (fun cg U =>
 (bC v5).wp K U (fun cH U =>
 (ag (some 0) cH).wp K U (fun v20 U =>
 (ag (some 2) v20).wp K U (fun v21 U =>
 (aM aK v21 cg U).wp K U (fun _ U =>
 af K 102 [a0, (.str qU)] U (au (fun cX U =>
 af K 169 [a0] U (au (fun dK U =>
 (aP (some (87, 1)) (some [.a7]) 1 false [(0, dK)]).wp K U (fun dx U =>
 af K 103 [v5, dx] U (au (fun v28 U =>
 aj R v28 U) (aa R))) (aa R)) (aa R))) (aa R))) (aa R)) (aa R)) (aa R)) (aa R)) (aa R))) (aa R))) (aa R)) (aa R)) (aa R)) (aa R)) (aa R))) (aa R))) (aa R))
def Lm : Prop :=
 (fun aF : St =>
 aC K (bC a0) (fun v4 =>
 aC K (ag (some 1) v4) (fun v5 =>
 aC K (aq aK v5 aF) (fun v6 =>
 aC K (bC a0) (fun v8 =>
 aC K (ag (some 0) v8) (fun v9 =>
 aC K (aq aK v9 aF) (fun v10 =>
 aC K (bB (some false) v10) (fun v11 =>
 aC K (ak .lss aE false v6 v11) (fun v12 =>
 ao v12 (
 (fun mZ : St =>
 aC K (bC a0) (fun bP =>
 aC K (ag (some 0) bP) (fun bA =>
 aC K (aq aK bA mZ) (fun cM =>
 aC K (bC a0) (fun cg =>
 aC K (ag (some 1) cg) (fun cH =>
 aC K (aq aK cH mZ) (fun v20 =>
 aC K (aG (some (51, 3)) none cM v20) (fun v21 =>
 aC K (ag (some 2) v21) (fun cn =>
 aC K (aq aK cn mZ) (fun cX =>
 aj R cX U)))))))))) U) (
 (bC a0).wp K U (fun ek U =>
 (ag (some 2) ek).wp K U (fun dK U =>
 (aq aK dK U).wp K U (fun dx U =>
 aj R dx U) (aa R)) (aa R)) (aa R))))))))))) U
def VU : Prop :=
 af K 167 [a0, (.int .i64 0)] U (au (fun v7 U =>
 (av.cr [.int .u8 0, .str [], .int .i64 0]).wp K U (fun v5 U =>
 (aM (some (true, 3)) v5 v7 U).wp K U (fun _ U =>
 iQ 2 (fun v0 gR U =>
 (bC v0).wp K U (fun bA U =>
 (ag (some 1) bA).wp K U (fun cM U =>
 (aq aK cM U).wp K U (fun ca U =>
 (ak .add aE true ca (.int .i64 1)).wp K U (fun cg U =>
 (bC v0).wp K U (fun cH U =>
 (ag (some 1) cH).wp K U (fun v20 U =>
 (aM aK v20 cg U).wp K U (fun _ U =>
 (ag (some 1) gR).wp K U (fun v21 U =>
 (aq aK v21 U).wp K U (fun cn U =>
 aj R cn U) (aa R)) (aa R)) (aa R)) (aa R)) (aa R)) (aa R)) (aa R)) (aa R)) (aa R)) fun j =>
 (ag (some 0) v5).wp K U (fun v8 U =>
 (aq aK v8 U).wp K U (fun v9 U =>
 (ak .neq aE false v9 a1).wp K U (fun v11 U =>
 ao v11 (
 af K 166 [a0] U (au (fun bF U =>
 j a0 v5 U) (aa R))) (
 j a0 v5 U)) (aa R)) (aa R)) (aa R)) (aa R)) (aa R)) (aa R))
def VV : Prop :=
 af K 164 [a0] U (au (fun v3 U =>
 (c7 (some [(0, 1)]) (some [.int .i64 0]) none [(0, v3)]).wp K U (fun v4 U =>
 (tO true 136 v4).wp K U (fun v5 U =>
 (qK v5).wp K U (fun _ U =>
 aj R (.aQ []) U) (aa R)) (aa R)) (aa R)) (aa R))
def Lq : Prop :=
 (av.cr [.int .u8 0, .str [], .int .i64 0]).wp K U (fun v4 U =>
 (fun aF : St =>
 aC K (bC a0) (fun v6 =>
 aC K (ag (some 1) v6) (fun v7 =>
 aC K (aq aK v7 aF) (fun v8 =>
 aC K (ak .add aE false v8 a1) (fun v10 =>
 aC K (bC a0) (fun v12 =>
 aC K (ag (some 0) v12) (fun bF =>
 aC K (aq aK bF aF) (fun bP =>
 aC K (bB (some false) bP) (fun bA =>
 aC K (ak .lss aE false v10 bA) (fun cM =>
 ao cM (
 (fun mZ : St =>
 aC K (bC a0) (fun cg =>
 aC K (ag (some 0) cg) (fun cH =>
 aC K (aq aK cH mZ) (fun v20 =>
 aC K (bC a0) (fun cn =>
 aC K (ag (some 1) cn) (fun cX =>
 aC K (aq aK cX mZ) (fun v24 =>
 aC K (ak .add aE false v24 a1) (fun dK =>
 aC K (aG (some (51, 3)) none v20 dK) (fun dx =>
 aC K (aq (some (true, 3)) dx mZ) (fun v28 =>
 (aM (some (true, 3)) v4 v28 U).wp K U (fun _ U =>
 bl (some (true, 3)) v4 U fun r0 =>
 aj R r0 U) (aa R))))))))))) U) (
 (c7 (some [(0, 1), (1, 1), (2, 1)]) (some [.int .u8 0, .str [], .int .i64 0]) none []).wp K U (fun cz U =>
 (aM (some (true, 3)) v4 cz U).wp K U (fun _ U =>
 bl (some (true, 3)) v4 U fun lM =>
 aj R lM U) (aa R)) (aa R)))))))))))) U) (aa R)
def VW : Prop :=
 af K 165 [a0, (.int .u8 2)] U (au (fun v7 U =>
 af K 218 [v7] U (au (fun v8 U =>
 (bg v8 0).wp K U (fun v9 U =>
 (bg v8 1).wp K U (fun v10 U =>
 iQ 1 (fun v3 U =>
 aj R v3 U) fun j =>
 (ak .neq (BT.mk false true false none false) true v10 .cN).wp K U (fun v12 U =>
 ao v12 (
 af K 166 [a0] U (au (fun bP U =>
 j v9 U) (aa R))) (
 j v9 U)) (aa R)) (aa R)) (aa R)) (aa R))) (aa R))
def Lt : Prop :=
 af K 167 [a0, (.int .i64 0)] U (au (fun v8 U =>
 (av.cr [.int .u8 0, .str [], .int .i64 0]).wp K U (fun v3 U =>
 (aM (some (true, 3)) v3 v8 U).wp K U (fun _ U =>
 (fun aF : St =>
 aC K (bC a0) (fun v11 =>
 aC K (ag (some 4) v11) (fun v12 =>
 aC K (aq aK v12 aF) (fun bF =>
 aC K (ag (some 1) v3) (fun bP =>
 aC K (aq aK bP aF) (fun bA =>
 aC K (fq (some (.s, 186)) (some .cZ) bF bA true aF) (fun cM =>
 aC K (bg cM 0) (fun ca =>
 aC K (bg cM 1) (fun cg =>
 ad K (ar cg true) (ag (some 0) v3) (fun v21 =>
 ad K (ar cg true) (aq aK v21 U) (fun cn =>
 ad K (ar cg true) (ak .eql aE true cn (.int .u8 3)) (fun cX =>
 (aR cg cX (.bool false)).wp K U (fun v24 U =>
 ao v24 (
 (fY K.P ca [a0]).wp K U (fun dx U =>
 aj R dx U) (aa R)) (
 iQ 2 (fun v0 eX U =>
 ao eX (
 af K 99 [v0, (.int .u8 16)] U (au (fun ga U =>
 af K 101 [v0] U (au (fun jE U =>
 (bC ga).wp K U (fun j5 U =>
 (ag (some 0) j5).wp K U (fun eo U =>
 (ag (some 1) eo).wp K U (fun oh U =>
 (aM aK oh jE U).wp K U (fun _ U =>
 af K 102 [v0, (.str cV)] U (au (fun v46 U =>
 af K 169 [v0] U (au (fun v49 U =>
 (aP (some (87, 1)) (some [.a7]) 1 false [(0, v49)]).wp K U (fun lx U =>
 af K 103 [ga, lx] U (au (fun v51 U =>
 aj R v51 U) (aa R))) (aa R)) (aa R))) (aa R))) (aa R)) (aa R)) (aa R)) (aa R)) (aa R))) (aa R))) (
 af K 219 [v0, (.int .i64 2)] U (au (fun v53 U =>
 aj R v53 U) (aa R)))) fun j =>
 (ag (some 0) v3).wp K U (fun v28 U =>
 (aq aK v28 U).wp K U (fun cz U =>
 (ak .eql aE true cz (.int .u8 1)).wp K U (fun v30 U =>
 ad K (ar v30 true) (av.val a0) (fun fF =>
 ao (ar v30 true) (
 af K 167 [fF, (.int .i64 1)] U (au (fun dL U =>
 ad K (ar v30 true) (aP (some (9, 1)) (some [.str []]) 1 false [(0, (.str cV))]) (fun fG =>
 ad K (ar v30 true) (av.enter 121 [dL, fG]) (fun eF =>
 (aR v30 eF (.bool false)).wp K U (fun o5 U =>
 j a0 o5 U) (aa R)))) (aa R))) (
 ad K (ar v30 true) (aP (some (9, 1)) (some [.str []]) 1 false [(0, (.str cV))]) (fun HQ =>
 ad K (ar v30 true) (av.enter 121 [(.aQ []), HQ]) (fun zt =>
 (aR v30 zt (.bool false)).wp K U (fun Yo U =>
 j a0 Yo U) (aa R)))))) (aa R)) (aa R)) (aa R))) (aa R))))))))))))) U) (aa R)) (aa R)) (aa R))
def Lv : Prop :=
 (av.cr [.int .u8 0, .str [], .int .i64 0]).wp K U (fun v4 U =>
 af K 220 [a0, a1] U (au (fun v12 U =>
 (ak .neq aE true v12 (.str w_)).wp K U (fun bA U =>
 ad K (ar bA true) (av.val v12) (fun ca =>
 ad K (ar bA true) (eg true none none ca (.int .i64 0)) (fun cg =>
 ad K (ar bA true) (av.enter 221 [cg]) (fun cH =>
 (aR bA cH (.bool false)).wp K U (fun v20 U =>
 ao v20 (
 af K 223 [] U (au (fun v21 U =>
 af K 222 [v21, v12] U (au (fun cX U =>
 ao cX (
 (c7 (some [(0, 1), (1, 1), (2, 1)]) (some [.int .u8 0, .str [], .int .i64 0]) none [(0, (.int .u8 3)), (1, v12), (2, a1)]).wp K U (fun dK U =>
 (aM (some (true, 3)) v4 dK U).wp K U (fun _ U =>
 bl (some (true, 3)) v4 U fun r0 =>
 aj R (.aQ [r0, (.int .i64 0)]) U) (aa R)) (aa R)) (
 (bB (some true) v12).wp K U (fun v28 U =>
 (ak .gtr aE true v28 (.int .i64 12)).wp K U (fun cz U =>
 ao cz (
 (c7 (some [(0, 1), (1, 1), (2, 1)]) (some [.int .u8 0, .str [], .int .i64 0]) none []).wp K U (fun v30 U =>
 (aM (some (true, 3)) v4 v30 U).wp K U (fun _ U =>
 bl (some (true, 3)) v4 U fun lM =>
 aj R (.aQ [lM, (.int .i64 4)]) U) (aa R)) (aa R)) (
 (c7 (some [(0, 1), (1, 1), (2, 1)]) (some [.int .u8 0, .str [], .int .i64 0]) none [(0, (.int .u8 1)), (1, v12), (2, a1)]).wp K U (fun dL U =>
 (aM (some (true, 3)) v4 dL U).wp K U (fun _ U =>
 bl (some (true, 3)) v4 U fun oM =>
 aj R (.aQ [oM, (.int .i64 0)]) U) (aa R)) (aa R))) (aa R)) (aa R))) (aa R))) (aa R))) (
 (ak .neq aE true v12 (.str w_)).wp K U (fun eX U =>
 ad K (ar eX true) (av.val v12) (fun ga =>
 ad K (ar eX true) (eg true none none ga (.int .i64 0)) (fun iJ =>
 ad K (ar eX true) (av.enter 224 [iJ]) (fun v40 =>
 (aR eX v40 (.bool false)).wp K U (fun jE U =>
 ao jE (
 af K 225 [v12] U (au (fun eo U =>
 (ak .neq aE true eo (.int .i64 0)).wp K U (fun jX U =>
 ao jX (
 (c7 (some [(0, 1), (1, 1), (2, 1)]) (some [.int .u8 0, .str [], .int .i64 0]) none []).wp K U (fun v46 U =>
 (aM (some (true, 3)) v4 v46 U).wp K U (fun _ U =>
 bl (some (true, 3)) v4 U fun uc =>
 aj R (.aQ [uc, eo]) U) (aa R)) (aa R)) (
 (c7 (some [(0, 1), (1, 1), (2, 1)]) (some [.int .u8 0, .str [], .int .i64 0]) none [(0, (.int .u8 2)), (1, v12), (2, a1)]).wp K U (fun lx U =>
 (aM (some (true, 3)) v4 lx U).wp K U (fun _ U =>
 bl (some (true, 3)) v4 U fun DM =>
 aj R (.aQ [DM, (.int .i64 0)]) U) (aa R)) (aa R))) (aa R)) (aa R))) (
 af K 226 [] U (au (fun v51 U =>
 cL 5 [a0, a1, v4, v51, (.int .i64 0)] U fun lp v0 v1 dz v8 v9 U =>
 (bB (some false) v8).wp K U (fun lR U =>
 (ak .lss aE false v9 lR).wp K U (fun iX U =>
 ao iX (
 (aG (some (9, 1)) none v8 v9).wp K U (fun sZ U =>
 (aq aK sZ U).wp K U (fun ox U =>
 af K 227 [v0, v1, ox] U (au (fun om U =>
 ao om (
 (aG (some (9, 1)) none v8 v9).wp K U (fun pH U =>
 (aq aK pH U).wp K U (fun qS U =>
 (c7 (some [(0, 1), (1, 1), (2, 1)]) (some [.int .u8 0, .str [], .int .i64 0]) none [(0, (.int .u8 4)), (1, qS), (2, v1)]).wp K U (fun v70 U =>
 (aM (some (true, 3)) dz v70 U).wp K U (fun _ U =>
 bl (some (true, 3)) dz U fun xW =>
 aj R (.aQ [xW, (.int .i64 0)]) U) (aa R)) (aa R)) (aa R)) (aa R)) (
 (ak .add aE true v9 (.int .i64 1)).wp K U (fun ly U =>
 lp v0 v1 dz v8 ly U) (aa R))) (aa R))) (aa R)) (aa R)) (
 (c7 (some [(0, 1), (1, 1), (2, 1)]) (some [.int .u8 0, .str [], .int .i64 0]) none []).wp K U (fun s8 U =>
 (aM (some (true, 3)) dz s8 U).wp K U (fun _ U =>
 bl (some (true, 3)) dz U fun DN =>
 aj R (.aQ [DN, (.int .i64 4)]) U) (aa R)) (aa R))) (aa R)) (aa R)) (aa R)))) (aa R))))) (aa R))) (aa R))))) (aa R)) (aa R))) (aa R)
def VX : Prop :=
 af K 230 [a0, a1] U (au (fun v7 U =>
 (ak .geq aE true v7 (.int .i64 0)).wp K U (fun v8 U =>
 aj R v8 U) (aa R)) (aa R))
def Ly : Prop :=
 (ak .geq aE true a0 (.int .u8 2)).wp K U (fun v4 U =>
 ad K (ar v4 true) (av.val a0) (fun v6 =>
 ad K (ar v4 true) (ak .leq aE true v6 (.int .u8 4)) (fun v7 =>
 (aR v4 v7 (.bool false)).wp K U (fun v8 U =>
 aj R v8 U) (aa R)))) (aa R)
def LA : Prop :=
 af K 206 [a0] U (au (fun v4 U =>
 ad K (ar v4 false) (av.val a0) (fun v6 =>
 ad K (ar v4 false) (ak .eql aE true v6 (.int .u8 8)) (fun v7 =>
 (aR v4 (.bool true) v7).wp K U (fun v8 U =>
 aj R v8 U) (aa R)))) (aa R))
def LC : Prop :=
 (ak .geq aE true a0 (.int .u8 9)).wp K U (fun v4 U =>
 ad K (ar v4 true) (av.val a0) (fun v6 =>
 ad K (ar v4 true) (ak .leq aE true v6 (.int .u8 34)) (fun v7 =>
 (aR v4 v7 (.bool false)).wp K U (fun v8 U =>
 aj R v8 U) (aa R)))) (aa R)
def LG : Prop :=
 (ak .geq aE true a0 (.int .u8 2)).wp K U (fun v4 U =>
 ad K (ar v4 true) (av.val a0) (fun v6 =>
 ad K (ar v4 true) (ak .leq aE true v6 (.int .u8 4)) (fun v7 =>
 (aR v4 v7 (.bool false)).wp K U (fun v8 U =>
 aj R v8 U) (aa R)))) (aa R)
def LI : Prop :=
 (ak .eql aE true a0 (.int .u8 6)).wp K U (fun v4 U =>
 ad K (ar v4 false) (av.val a0) (fun v6 =>
 ad K (ar v4 false) (ak .eql aE true v6 (.int .u8 7)) (fun v7 =>
 (aR v4 (.bool true) v7).wp K U (fun v8 U =>
 aj R v8 U) (aa R)))) (aa R)
def LK : Prop :=
 af K 185 [a0] U (au (fun v4 U =>
 ad K (ar v4 false) (av.val a0) (fun v6 =>
 ad K (ar v4 false) (ak .eql aE true v6 (.int .u8 35)) (fun v7 =>
 (aR v4 (.bool true) v7).wp K U (fun v8 U =>
 ad K (ar v8 false) (av.val a0) (fun v10 =>
 ad K (ar v8 false) (ak .eql aE true v10 (.int .u8 36)) (fun v11 =>
 (aR v8 (.bool true) v11).wp K U (fun v12 U =>
 aj R v12 U) (aa R)))) (aa R)))) (aa R))
def LM : Prop :=
 af K 33 [a0] U (au (fun v8 U =>
 (bg v8 0).wp K U (fun v9 U =>
 (bg v8 1).wp K U (fun v10 U =>
 (bg v8 2).wp K U (fun v11 U =>
 (ak .eql aE true v11 (.int .i64 0)).wp K U (fun bF U =>
 ad K (ar bF true) (av.val v9) (fun bA =>
 ad K (ar bF true) (bB (some false) bA) (fun cM =>
 ad K (ar bF true) (ak .eql aE true cM (.int .i64 1)) (fun ca =>
 (aR bF ca (.bool false)).wp K U (fun cg U =>
 ad K (ar cg true) (av.val v9) (fun v20 =>
 ad K (ar cg true) (aG (some (51, 3)) none v20 (.int .i64 0)) (fun v21 =>
 ad K (ar cg true) (ag (some 0) v21) (fun cn =>
 ad K (ar cg true) (aq aK cn U) (fun cX =>
 ad K (ar cg true) (ak .eql aE true cX (.int .u8 1)) (fun v24 =>
 (aR cg v24 (.bool false)).wp K U (fun ek U =>
 ad K (ar ek true) (av.val v9) (fun dx =>
 ad K (ar ek true) (aG (some (51, 3)) none dx (.int .i64 0)) (fun v28 =>
 ad K (ar ek true) (ag (some 1) v28) (fun cz =>
 ad K (ar ek true) (aq aK cz U) (fun v30 =>
 ad K (ar ek true) (av.val a0) (fun v31 =>
 ad K (ar ek true) (ak .eql aE false v30 v31) (fun fF =>
 (aR ek fF (.bool false)).wp K U (fun dL U =>
 aj R dL U) (aa R)))))))) (aa R))))))) (aa R))))) (aa R)) (aa R)) (aa R)) (aa R)) (aa R))
def LO : Prop :=
 (bB (some false) a1).wp K U (fun v12 U =>
 cL 5 [a0, a1, a1, v12, (.int .i64 0)] U fun lp v0 v1 v11 QY bF U =>
 (ak .lss aE false bF QY).wp K U (fun bP U =>
 ao bP (
 (aG (some (200, 3)) none v11 bF).wp K U (fun cM U =>
 (aq (some (true, 3)) cM U).wp K U (fun ca U =>
 (av.cr [.cZ, .int .i64 0, .int .i64 0]).wp K U (fun v6 U =>
 (aM (some (true, 3)) v6 ca U).wp K U (fun _ U =>
 (ak .add aE true bF (.int .i64 1)).wp K U (fun v20 U =>
 (eE false (some (200, 3)) v1 (some v20) none).wp K U (fun v21 U =>
 (bB (some false) v21).wp K U (fun cn U =>
 cL 10 [v0, v1, v6, (.int .i64 0), v11, QY, bF, v21, cn, (.int .i64 0)] U fun tM mB eN sk v7 zq QZ pV Q3 Q4 cX U =>
 (ak .lss aE false cX Q4).wp K U (fun v24 U =>
 ao v24 (
 (aG (some (200, 3)) none Q3 cX).wp K U (fun ek U =>
 (aq (some (true, 3)) ek U).wp K U (fun dK U =>
 (av.cr [.cZ, .int .i64 0, .int .i64 0]).wp K U (fun v9 U =>
 (aM (some (true, 3)) v9 dK U).wp K U (fun _ U =>
 (ag (some 1) v9).wp K U (fun v28 U =>
 (aq aK v28 U).wp K U (fun cz U =>
 (ak .add aE false v7 cz).wp K U (fun v30 U =>
 (ak .add aE true cX (.int .i64 1)).wp K U (fun v31 U =>
 tM mB eN sk v30 zq QZ pV Q3 Q4 v31 U) (aa R)) (aa R)) (aa R)) (aa R)) (aa R)) (aa R)) (aa R)) (aa R)) (
 cL 8 [mB, eN, sk, v7, (.int .i64 0), zq, QZ, pV] U fun Ds si uq HR nr v10 QW Q0 zr U =>
 iQ 9 (fun Wi sj WB aa9 HO QX Q1 Q2 j6 U =>
 ao j6 (
 (ak .add aE true HO (.int .i64 1)).wp K U (fun lR U =>
 Ds Wi sj WB aa9 lR QX Q1 Q2 U) (aa R)) (
 (ag (some 1) WB).wp K U (fun mQ U =>
 (aq aK mQ U).wp K U (fun ly U =>
 (ak .lss aE false HO ly).wp K U (fun lz U =>
 ao lz (
 aj R (.bool false) U) (
 (eE false (some (5, 1)) Wi (some HO) none).wp K U (fun rI U =>
 (ak .add aE true Q2 (.int .i64 1)).wp K U (fun sZ U =>
 lp rI sj QX Q1 sZ U) (aa R)) (aa R))) (aa R)) (aa R)) (aa R))) fun j =>
 (fun aF : St =>
 aC K (bB (some false) si) (fun fG =>
 aC K (ak .sub aE false fG nr) (fun eX =>
 aC K (ak .lss aE false v10 eX) (fun v37 =>
 ad K (ar v37 true) (av.val v10) (fun iJ =>
 ad K (ar v37 true) (ag (some 2) HR) (fun v40 =>
 ad K (ar v37 true) (aq aK v40 aF) (fun jE =>
 ad K (ar v37 true) (ak .lss aE false iJ jE) (fun j5 =>
 aC K (aR v37 j5 (.bool false)) (fun eo =>
 ad K (ar eo true) (ag (some 0) HR) (fun jX =>
 ad K (ar eo true) (aq aK jX aF) (fun v46 =>
 ad K (ar eo true) (av.val si) (fun lQ =>
 ad K (ar eo true) (av.val v10) (fun gV =>
 ad K (ar eo true) (aG (some (5, 1)) none lQ gV) (fun v49 =>
 ad K (ar eo true) (aq aK v49 aF) (fun lx =>
 ao (ar eo true) (
 (fY K.P v46 [lx]).wp K U (fun v51 U => c8 ((dM v49 ++ []) ++ ((dM jX ++ []) ++ ((dM v40 ++ []) ++ []))) aF U /\
 aC K (aR eo v51 (.bool false)) (fun Yp =>
 j si uq HR nr v10 QW Q0 zr Yp U)) (aa R)) (
 aC K (aR eo (.aQ []) (.bool false)) (fun Yq =>
 j si uq HR nr v10 QW Q0 zr Yq U))))))))))))))))) U)) (aa R)) (aa R)) (aa R)) (aa R)) (aa R)) (aa R)) (aa R)) (aa R)) (
 (bB (some false) v0).wp K U (fun om U =>
 (ak .eql aE true om (.int .i64 0)).wp K U (fun s0 U =>
 aj R s0 U) (aa R)) (aa R))) (aa R)) (aa R)
def DT : Prop :=
 (bB (some false) a0).wp K U (fun v7 U =>
 cL 4 [a0, a1, v7, (.int .i64 0)] U fun lp v0 v1 nr v8 U =>
 (ak .lss aE false v8 nr).wp K U (fun v9 U =>
 ao v9 (
 (aG (some (3, 1)) none v0 v8).wp K U (fun bP U =>
 (aq aK bP U).wp K U (fun bA U =>
 (fY K.P v1 [bA]).wp K U (fun cM U =>
 ao cM (
 aj R v8 U) (
 (ak .add aE true v8 (.int .i64 1)).wp K U (fun cg U =>
 lp v0 v1 nr cg U) (aa R))) (aa R)) (aa R)) (aa R)) (
 aj R (.int .i64 (-1)) U)) (aa R)) (aa R)
def LQ : Prop :=
 (eH a0).wp K U (fun v1 U =>
 (ag (some 1) v1).wp K U (fun v5 U =>
 (aq aK v5 U).wp K U (fun v6 U =>
 (ak .eql aE true v6 (.str w_)).wp K U (fun v7 U =>
 ao v7 (
 aj R (.bool false) U) (
 (ag (some 1) v1).wp K U (fun v9 U =>
 (aq aK v9 U).wp K U (fun v10 U =>
 af K 172 [v10, (.int .i64 0)] U (au (fun v11 U =>
 (bg v11 0).wp K U (fun v12 U =>
 (bg v11 1).wp K U (fun bF U =>
 (av.cr [.int .u8 0, .str [], .int .i64 0]).wp K U (fun v3 U =>
 (aM (some (true, 3)) v3 v12 U).wp K U (fun _ U =>
 (ak .eql aE true bF (.int .i64 0)).wp K U (fun bA U =>
 ad K (ar bA true) (ag (some 0) v3) (fun ca =>
 ad K (ar bA true) (aq aK ca U) (fun cg =>
 ad K (ar bA true) (ag (some 0) v1) (fun cH =>
 ad K (ar bA true) (aq aK cH U) (fun v20 =>
 ad K (ar bA true) (ak .eql aE false cg v20) (fun v21 =>
 (aR bA v21 (.bool false)).wp K U (fun cn U =>
 ad K (ar cn true) (ag (some 1) v3) (fun v24 =>
 ad K (ar cn true) (aq aK v24 U) (fun ek =>
 ad K (ar cn true) (ag (some 1) v1) (fun dK =>
 ad K (ar cn true) (aq aK dK U) (fun dx =>
 ad K (ar cn true) (ak .eql aE false ek dx) (fun v28 =>
 (aR cn v28 (.bool false)).wp K U (fun cz U =>
 aj R cz U) (aa R))))))) (aa R))))))) (aa R)) (aa R)) (aa R)) (aa R)) (aa R)) (aa R))) (aa R)) (aa R))) (aa R)) (aa R)) (aa R)) (aa R)
def VY : Prop :=
 af K 243 [a0, a1] U (au (fun v10 U =>
 (ak .geq aE true v10 (.int .i64 0)).wp K U (fun v12 U =>
 ao v12 (
 (fun aF : St =>
 aC K (eE true none a0 none (some v10)) (fun bA =>
 aC K (bB (some true) a1) (fun cH =>
 aC K (ak .add aE false v10 cH) (fun v20 =>
 aC K (eE true none a0 (some v20) none) (fun v21 =>
 aj R (.aQ [bA, v21, (.bool true)]) U))))) U) (
 aj R (.aQ [a0, (.str w_), (.bool false)]) U)) (aa R)) (aa R))
def VZ : Prop :=
 af K 246 [a0, a1] U (au (fun v7 U =>
 (ak .geq aE true v7 (.int .i64 0)).wp K U (fun v8 U =>
 aj R v8 U) (aa R)) (aa R))
def LU : Prop :=
 (ak .eql aE true a0 (.int .u8 32)).wp K U (fun v5 U =>
 ad K (ar v5 false) (av.val a0) (fun v7 =>
 ad K (ar v5 false) (ak .eql aE true v7 (.int .u8 10)) (fun v8 =>
 (aR v5 (.bool true) v8).wp K U (fun v9 U =>
 ao v9 (
 aj R (.int .i64 1) U) (
 (ak .lss aE true a0 (.int .u8 32)).wp K U (fun v12 U =>
 ad K (ar v12 false) (av.val a0) (fun bP =>
 ad K (ar v12 false) (ak .gtr aE true bP (.int .u8 126)) (fun bA =>
 (aR v12 (.bool true) bA).wp K U (fun cM U =>
 ao cM (
 aj R (.int .i64 0) U) (
 (ak .geq aE true a0 (.int .u8 48)).wp K U (fun cH U =>
 ad K (ar cH true) (av.val a0) (fun v21 =>
 ad K (ar cH true) (ak .leq aE true v21 (.int .u8 57)) (fun cn =>
 (aR cH cn (.bool false)).wp K U (fun cX U =>
 ao cX (
 aj R (.int .i64 2) U) (
 (ak .geq aE true a0 (.int .u8 97)).wp K U (fun dK U =>
 ad K (ar dK true) (av.val a0) (fun v28 =>
 ad K (ar dK true) (ak .leq aE true v28 (.int .u8 122)) (fun cz =>
 (aR dK cz (.bool false)).wp K U (fun v30 U =>
 ao v30 (
 aj R (.int .i64 3) U) (
 (ak .geq aE true a0 (.int .u8 65)).wp K U (fun dL U =>
 ad K (ar dL true) (av.val a0) (fun eF =>
 ad K (ar dL true) (ak .leq aE true eF (.int .u8 90)) (fun eX =>
 (aR dL eX (.bool false)).wp K U (fun v37 U =>
 ao v37 (
 aj R (.int .i64 4) U) (
 aj R (.int .i64 5) U)) (aa R)))) (aa R))) (aa R)))) (aa R))) (aa R)))) (aa R))) (aa R)))) (aa R))) (aa R)))) (aa R)
def LW : Prop :=
 (ak .eql aE true a1 (.int .i64 9)).wp K U (fun v12 U =>
 ao v12 (
 af K 252 [a0] U (au (fun bP U =>
 aj R bP U) (aa R))) (
 (ak .eql aE true a1 (.int .i64 4)).wp K U (fun cM U =>
 ao cM (
 af K 99 [a0, (.int .u8 19)] U (au (fun cg U =>
 af K 100 [a0, (.str B6)] U (au (fun v20 U =>
 ao v20 (
 af K 219 [a0, (.int .i64 4)] U (au (fun cX U =>
 (aP (some (87, 1)) (some [.a7]) 1 false [(0, cX)]).wp K U (fun v24 U =>
 af K 103 [cg, v24] U (au (fun ek U =>
 aj R ek U) (aa R))) (aa R)) (aa R))) (
 (ak .add aE true a1 (.int .i64 1)).wp K U (fun v28 U =>
 af K 219 [a0, v28] U (au (fun cz U =>
 aj R cz U) (aa R))) (aa R))) (aa R))) (aa R))) (
 (ak .add aE true a1 (.int .i64 1)).wp K U (fun fF U =>
 af K 219 [a0, fF] U (au (fun dL U =>
 cL 3 [a0, a1, dL] U fun lp v0 v1 v6 U =>
 (fun aF : St =>
 aC K (bC v0) (fun eX =>
 aC K (ag (some 3) eX) (fun v37 =>
 aC K (aq aK v37 aF) (fun ga =>
 aC K (fq (some (.i, 185)) (some .jT) ga v1 false aF) (fun v40 =>
 af K 253 [v0] U (au (fun j5 U => c8 ((dM ga ++ (dM v1 ++ [])) ++ ((dM v37 ++ []) ++ [])) aF U /\
 (∀ b ∈ dM v40 ++ (dM j5 ++ []), b ∈ (dM ga ++ (dM v1 ++ [])) ++ ((dM v37 ++ []) ++ [])) /\
 aC K (fq (some (.s, 5)) (some (.int .u8 0)) v40 j5 true aF) (fun eo =>
 aC K (bg eo 0) (fun oh =>
 aC K (bg eo 1) (fun jX =>
 (fo .not jX).wp K U (fun lQ U =>
 ao lQ (
 aj R v6 U) (
 af K 99 [v0, oh] U (au (fun v51 U =>
 (bC v0).wp K U (fun v53 U =>
 (ag (some 1) v53).wp K U (fun lR U =>
 (aq aK lR U).wp K U (fun iX U =>
 (ak .add aE true iX (.int .i64 1)).wp K U (fun mQ U =>
 (bC v0).wp K U (fun ly U =>
 (ag (some 1) ly).wp K U (fun lz U =>
 (aM aK lz mQ U).wp K U (fun _ U =>
 (ak .eql aE true v1 (.int .i64 8)).wp K U (fun qR U =>
 ao qR (
 af K 168 [v0] U (au (fun ox U =>
 (bC v51).wp K U (fun om U =>
 (ag (some 0) om).wp K U (fun s0 U =>
 (ag (some 2) s0).wp K U (fun zu U =>
 (aM aK zu ox U).wp K U (fun _ U =>
 (aP (some (87, 1)) (some [.a7]) 1 false [(0, v6)]).wp K U (fun Ea U =>
 af K 103 [v51, Ea] U (au (fun v70 U =>
 lp v0 v1 v70 U) (aa R))) (aa R)) (aa R)) (aa R)) (aa R)) (aa R)) (aa R))) (
 (ak .add aE true v1 (.int .i64 1)).wp K U (fun v75 U =>
 af K 219 [v0, v75] U (au (fun v76 U =>
 (aP (some (87, 1)) (some [.a7]) 2 false [(0, v6), (1, v76)]).wp K U (fun ta U =>
 af K 103 [v51, ta] U (au (fun Eb U =>
 (ak .eql aE true v1 (.int .i64 5)).wp K U (fun v80 U =>
 ao v80 (
 aj R Eb U) (
 lp v0 v1 Eb U)) (aa R)) (aa R))) (aa R)) (aa R))) (aa R))) (aa R)) (aa R)) (aa R)) (aa R)) (aa R)) (aa R)) (aa R)) (aa R)) (aa R)))) (aa R))))) (aa R))))))) U) (aa R))) (aa R))) (aa R))) (aa R)
def LY : Prop :=
 cL 3 [a0, a1, a1] U fun lp v0 v1 v5 U =>
 (bB (some true) v0).wp K U (fun v9 U =>
 (ak .lss aE false v5 v9).wp K U (fun v10 U =>
 ad K (ar v10 true) (av.val v0) (fun v12 =>
 ad K (ar v10 true) (av.val v5) (fun bF =>
 ad K (ar v10 true) (eg true none none v12 bF) (fun bP =>
 ad K (ar v10 true) (av.enter 254 [bP]) (fun bA =>
 ad K (ar v10 true) (av.val bA) (fun cM =>
 ad K (ar cM false) (av.val v0) (fun ca =>
 ad K (ar cM false) (av.val v5) (fun cg =>
 ad K (ar cM false) (eg true none none ca cg) (fun cH =>
 ad K (ar cM false) (av.enter 224 [cH]) (fun v20 =>
 ad K (ar v10 true) (aR cM (.bool true) v20) (fun v21 =>
 (aR v10 v21 (.bool false)).wp K U (fun cn U =>
 ao cn (
 (ak .add aE true v5 (.int .i64 1)).wp K U (fun v24 U =>
 lp v0 v1 v24 U) (aa R)) (
 (eE true none v0 (some v1) (some v5)).wp K U (fun v28 U =>
 aj R v28 U) (aa R))) (aa R)))))))))))) (aa R)) (aa R)
def L0 : Prop :=
 (ak .geq aE true a0 (.int .u8 97)).wp K U (fun v4 U =>
 ad K (ar v4 true) (av.val a0) (fun v6 =>
 ad K (ar v4 true) (ak .leq aE true v6 (.int .u8 122)) (fun v7 =>
 (aR v4 v7 (.bool false)).wp K U (fun v8 U =>
 aj R v8 U) (aa R)))) (aa R)
def L6 : Prop :=
 cL 3 [a0, a1, (.int .i64 0)] U fun lp v0 v1 v5 U =>
 (bB (some false) v0).wp K U (fun v8 U =>
 (ak .lss aE false v5 v8).wp K U (fun v9 U =>
 ao v9 (
 (aG (some (9, 1)) none v0 v5).wp K U (fun bP U =>
 (aq aK bP U).wp K U (fun bA U =>
 (ak .eql aE false bA v1).wp K U (fun ca U =>
 ao ca (
 aj R (.bool true) U) (
 (ak .add aE true v5 (.int .i64 1)).wp K U (fun v11 U =>
 lp v0 v1 v11 U) (aa R))) (aa R)) (aa R)) (aa R)) (
 aj R (.bool false) U)) (aa R)) (aa R)
def L9 : Prop :=
 (aP (some (9, 1)) (some [.str []]) 30 false [(0, (.str zz)), (1, (.str Eg)), (2, (.str MX)), (3, (.str MY)), (4, (.str oR)), (5, (.str Q8)), (6, (.str ur)), (7, (.str At)), (8, (.str kP)), (9, (.str nu)), (10, (.str gq)), (11, (.str Eh)), (12, (.str B5)), (13, (.str kQ)), (14, (.str yd)), (15, (.str nv)), (16, (.str qU)), (17, (.str Q9)), (18, (.str mS)), (19, (.str qe)), (20, (.str wO)), (21, (.str B6)), (22, (.str oT)), (23, (.str WE)), (24, (.str Ei)), (25, (.str B7)), (26, (.str jq)), (27, (.str te)), (28, (.str fU)), (29, (.str oU))]).wp K U (fun v1 U =>
 aj R v1 U) (aa R)
def Mb : Prop :=
 (ak .geq aE true a0 (.int .u8 48)).wp K U (fun v4 U =>
 ad K (ar v4 true) (av.val a0) (fun v6 =>
 ad K (ar v4 true) (ak .leq aE true v6 (.int .u8 57)) (fun v7 =>
 (aR v4 v7 (.bool false)).wp K U (fun v8 U =>
 aj R v8 U) (aa R)))) (aa R)
def Md : Prop :=
 cL 3 [a0, (.int .i64 0), (.int .i64 0)] U fun lp v0 v3 v4 U =>
 (bB (some true) v0).wp K U (fun v7 U =>
 (ak .lss aE false v4 v7).wp K U (fun v8 U =>
 ao v8 (
 (eg true none none v0 v4).wp K U (fun bF U =>
 af K 224 [bF] U (au (fun bP U =>
 (fo .not bP).wp K U (fun bA U =>
 ad K (ar bA false) (av.val v4) (fun ca =>
 ad K (ar bA false) (ak .gtr aE true ca (.int .i64 0)) (fun cg =>
 ad K (ar bA false) (av.val cg) (fun cH =>
 ad K (ar cH true) (av.val v0) (fun v20 =>
 ad K (ar cH true) (eg true none none v20 (.int .i64 0)) (fun v21 =>
 ad K (ar cH true) (ak .eql aE true v21 (.int .u8 48)) (fun cn =>
 ad K (ar bA false) (aR cH cn (.bool false)) (fun cX =>
 (aR bA (.bool true) cX).wp K U (fun v24 U =>
 ao v24 (
 aj R (.int .i64 4) U) (
 (ak .mul aE true (.int .i64 10) v3).wp K U (fun dK U =>
 (eg true none none v0 v4).wp K U (fun cz U =>
 (ak .sub aE true cz (.int .u8 48)).wp K U (fun v30 U =>
 (tp (some .i64) true false false v30).wp K U (fun v31 U =>
 (ak .add aE false dK v31).wp K U (fun fF U =>
 (rY fF (.int .i64 1000001)).wp K U (fun dL U =>
 (ak .add aE true v4 (.int .i64 1)).wp K U (fun v10 U =>
 lp v0 dL v10 U) (aa R)) (aa R)) (aa R)) (aa R)) (aa R)) (aa R)) (aa R))) (aa R))))))))) (aa R)) (aa R))) (aa R)) (
 (ak .gtr aE true v3 (.int .i64 1000000)).wp K U (fun eF U =>
 ao eF (
 aj R (.int .i64 3) U) (
 aj R (.int .i64 0) U)) (aa R))) (aa R)) (aa R)
def Mf : Prop :=
 (aP (some (9, 1)) (some [.str []]) 16 false [(0, (.str cV)), (1, (.str iK)), (2, (.str wL)), (3, (.str wK)), (4, (.str wG)), (5, (.str wI)), (6, (.str wF)), (7, (.str o6)), (8, (.str o7)), (9, (.str pW)), (10, (.str wM)), (11, (.str zy)), (12, (.str wH)), (13, (.str rJ)), (14, (.str wJ)), (15, (.str zx))]).wp K U (fun v1 U =>
 aj R v1 U) (aa R)
def Mh : Prop :=
 (bB (some true) a0).wp K U (fun v8 U =>
 (ak .sub aE false v8 a1).wp K U (fun v10 U =>
 (bB (some true) a2).wp K U (fun v12 U =>
 (ak .geq aE false v10 v12).wp K U (fun bF U =>
 ad K (ar bF true) (av.val a0) (fun bA =>
 ad K (ar bF true) (av.val a1) (fun cM =>
 ad K (ar bF true) (av.val a1) (fun ca =>
 ad K (ar bF true) (av.val a2) (fun cg =>
 ad K (ar bF true) (bB (some true) cg) (fun cH =>
 ad K (ar bF true) (ak .add aE false ca cH) (fun v20 =>
 ad K (ar bF true) (eE true none bA (some cM) (some v20)) (fun v21 =>
 ad K (ar bF true) (av.val a2) (fun cn =>
 ad K (ar bF true) (ak .eql aE false v21 cn) (fun cX =>
 (aR bF cX (.bool false)).wp K U (fun v24 U =>
 aj R v24 U) (aa R))))))))))) (aa R)) (aa R)) (aa R)) (aa R)
def Mj : Prop :=
 (bB (some false) a0).wp K U (fun v7 U =>
 cL 4 [a0, a1, v7, (.int .i64 0)] U fun lp v0 v1 nr v8 U =>
 (ak .lss aE false v8 nr).wp K U (fun v9 U =>
 ao v9 (
 (aG (some (9, 1)) none v0 v8).wp K U (fun bP U =>
 (aq aK bP U).wp K U (fun bA U =>
 (ak .eql aE false v1 bA).wp K U (fun cM U =>
 ao cM (
 aj R v8 U) (
 (ak .add aE true v8 (.int .i64 1)).wp K U (fun cg U =>
 lp v0 v1 nr cg U) (aa R))) (aa R)) (aa R)) (aa R)) (
 aj R (.int .i64 (-1)) U)) (aa R)) (aa R)
def Mm : Prop :=
 (bC a0).wp K U (fun v10 U =>
 (ag (some 2) v10).wp K U (fun v11 U =>
 (aq aK v11 U).wp K U (fun v12 U =>
 (vN (some (.i, 185)) v12).wp K U (fun bF U =>
 cL 2 [a1, bF] U fun lp v1 pV U =>
 (pS pV U).wp K U (fun bP U =>
 (bg bP 0).wp K U (fun bA U =>
 ao bA (
 (mE pV U).wp K U (fun cM U =>
 (bg cM 0).wp K U (fun ca U =>
 (bg cM 1).wp K U (fun cg U =>
 (vN (some (.s, 5)) cg).wp K U (fun v20 U =>
 cL 4 [v1, ca, pV, v20] U fun tM eN v5 zr HP U =>
 (pS HP U).wp K U (fun v21 U =>
 (bg v21 0).wp K U (fun cn U =>
 ao cn (
 (mE HP U).wp K U (fun cX U =>
 (bg cX 1).wp K U (fun v24 U =>
 (ak .eql aE false v24 eN).wp K U (fun dx U =>
 ao dx (
 aj R v5 U) (
 tM eN v5 zr HP U)) (aa R)) (aa R)) (aa R)) (
 lp eN zr U)) (aa R)) (aa R)) (aa R)) (aa R)) (aa R)) (aa R)) (
 (ak .eql aE true v1 (.int .u8 9)).wp K U (fun v31 U =>
 ao v31 (
 aj R (.int .i64 0) U) (
 (ak .eql aE true v1 (.int .u8 19)).wp K U (fun fG U =>
 ao fG (
 aj R (.int .i64 4) U) (
 (ak .geq aE true v1 (.int .u8 10)).wp K U (fun v37 U =>
 ad K (ar v37 true) (av.val v1) (fun iJ =>
 ad K (ar v37 true) (ak .leq aE true iJ (.int .u8 16)) (fun v40 =>
 (aR v37 v40 (.bool false)).wp K U (fun jE U =>
 ao jE (
 aj R (.int .i64 1) U) (
 aj R (.int .i64 9) U)) (aa R)))) (aa R))) (aa R))) (aa R))) (aa R)) (aa R)) (aa R)) (aa R)) (aa R)) (aa R)
def Mo : Prop :=
 (aq aK a1 U).wp K U (fun v5 U =>
 (ak .eql aE false a0 v5).wp K U (fun v6 U =>
 aj R v6 U) (aa R)) (aa R)
def Mq : Prop :=
 (bB (some false) a0).wp K U (fun v7 U =>
 cL 4 [a0, a1, v7, (.int .i64 0)] U fun lp v0 v1 nr v8 U =>
 (ak .lss aE false v8 nr).wp K U (fun v9 U =>
 ao v9 (
 (aG (some (178, 1)) none v0 v8).wp K U (fun bP U =>
 (aq aK bP U).wp K U (fun bA U =>
 (ak .eql aE false v1 bA).wp K U (fun cM U =>
 ao cM (
 aj R v8 U) (
 (ak .add aE true v8 (.int .i64 1)).wp K U (fun cg U =>
 lp v0 v1 nr cg U) (aa R))) (aa R)) (aa R)) (aa R)) (
 aj R (.int .i64 (-1)) U)) (aa R)) (aa R)
def Ms : Prop :=
 (av.BY).wp K U (fun v10 U =>
 (ic (some (.s, 5)) v10 (.str fU) (.int .u8 27) U).wp K U (fun _ U =>
 (ic (some (.s, 5)) v10 (.str gq) (.int .u8 28) U).wp K U (fun _ U =>
 (ic (some (.s, 5)) v10 (.str jq) (.int .u8 29) U).wp K U (fun _ U =>
 (ic (some (.s, 5)) v10 (.str kQ) (.int .u8 30) U).wp K U (fun _ U =>
 (ic (some (.s, 5)) v10 (.str mS) (.int .u8 31) U).wp K U (fun _ U =>
 (ic (some (.s, 5)) v10 (.str o6) (.int .u8 32) U).wp K U (fun _ U =>
 af K 253 [a0] U (au (fun bA U =>
 (fq (some (.s, 5)) (some (.int .u8 0)) v10 bA true U).wp K U (fun cM U =>
 (bg cM 0).wp K U (fun ca U =>
 (bg cM 1).wp K U (fun cg U =>
 ao cg (
 af K 99 [a0, ca] U (au (fun cn U =>
 (bC a0).wp K U (fun v24 U =>
 (ag (some 1) v24).wp K U (fun ek U =>
 (aq aK ek U).wp K U (fun dK U =>
 (ak .add aE true dK (.int .i64 1)).wp K U (fun dx U =>
 (bC a0).wp K U (fun v28 U =>
 (ag (some 1) v28).wp K U (fun cz U =>
 (aM aK cz dx U).wp K U (fun _ U =>
 iQ 1 (fun v6 U =>
 aj R v6 U) fun j =>
 (ak .eql aE true ca (.int .u8 31)).wp K U (fun v31 U =>
 ad K (ar v31 false) (av.val ca) (fun dL =>
 ad K (ar v31 false) (ak .eql aE true dL (.int .u8 32)) (fun fG =>
 (aR v31 (.bool true) fG).wp K U (fun eF U =>
 ao eF (
 af K 101 [a0] U (au (fun ga U =>
 (bC cn).wp K U (fun iJ U =>
 (ag (some 0) iJ).wp K U (fun v40 U =>
 (ag (some 1) v40).wp K U (fun jE U =>
 (aM aK jE ga U).wp K U (fun _ U =>
 j cn U) (aa R)) (aa R)) (aa R)) (aa R)) (aa R))) (
 j cn U)) (aa R)))) (aa R)) (aa R)) (aa R)) (aa R)) (aa R)) (aa R)) (aa R)) (aa R)) (aa R))) (
 af K 100 [a0, (.str o7)] U (au (fun oh U =>
 ao oh (
 af K 109 [a0] U (au (fun v46 U =>
 af K 102 [a0, (.str pW)] U (au (fun gV U =>
 aj R v46 U) (aa R))) (aa R))) (
 af K 167 [a0, (.int .i64 0)] U (au (fun v51 U =>
 (qY (some (0, false, 1)) v51).wp K U (fun j6 U =>
 (ak .eql aE true j6 (.int .u8 2)).wp K U (fun v53 U =>
 ao v53 (
 af K 99 [a0, (.int .u8 26)] U (au (fun iX U =>
 af K 168 [a0] U (au (fun lz U =>
 (bC iX).wp K U (fun v59 U =>
 (ag (some 0) v59).wp K U (fun qR U =>
 (ag (some 2) qR).wp K U (fun rI U =>
 (aM aK rI lz U).wp K U (fun _ U =>
 aj R iX U) (aa R)) (aa R)) (aa R)) (aa R)) (aa R))) (aa R))) (
 af K 99 [a0, (.int .u8 33)] U (au (fun om U =>
 af K 101 [a0] U (au (fun pH U =>
 (bC om).wp K U (fun qS U =>
 (ag (some 0) qS).wp K U (fun Ea U =>
 (ag (some 1) Ea).wp K U (fun v70 U =>
 (aM aK v70 pH U).wp K U (fun _ U =>
 iQ 1 (fun v9 U =>
 aj R v9 U) fun Jn =>
 af K 100 [a0, (.str o7)] U (au (fun v72 U =>
 ao v72 (
 (bC om).wp K U (fun s9 U =>
 (ag (some 0) s9).wp K U (fun v75 U =>
 (ag (some 0) v75).wp K U (fun v76 U =>
 (aM aK v76 (.int .u8 34) U).wp K U (fun _ U =>
 af K 106 [a0, om, (.func (.func 269) [a0] [])] U (au (fun MO U =>
 af K 102 [a0, (.str pW)] U (au (fun Ed U =>
 Jn om U) (aa R))) (aa R))) (aa R)) (aa R)) (aa R)) (aa R)) (
 Jn om U)) (aa R))) (aa R)) (aa R)) (aa R)) (aa R)) (aa R))) (aa R)))) (aa R)) (aa R)) (aa R)))) (aa R)))) (aa R)) (aa R)) (aa R)) (aa R))) (aa R)) (aa R)) (aa R)) (aa R)) (aa R)) (aa R)) (aa R)
def Mu : Prop :=
 af K 167 [a0, (.int .i64 0)] U (au (fun v5 U =>
 (av.cr [.int .u8 0, .str [], .int .i64 0]).wp K U (fun v3 U =>
 (aM (some (true, 3)) v3 v5 U).wp K U (fun _ U =>
 (ag (some 0) v3).wp K U (fun v6 U =>
 (aq aK v6 U).wp K U (fun v7 U =>
 (ak .eql aE true v7 (.int .u8 3)).wp K U (fun v8 U =>
 ad K (ar v8 false) (ag (some 0) v3) (fun v10 =>
 ad K (ar v8 false) (aq aK v10 U) (fun v11 =>
 ad K (ar v8 false) (ak .eql aE true v11 (.int .u8 4)) (fun v12 =>
 (aR v8 (.bool true) v12).wp K U (fun bF U =>
 ao bF (
 (ag (some 1) v3).wp K U (fun bP U =>
 (aq aK bP U).wp K U (fun bA U =>
 aj R bA U) (aa R)) (aa R)) (
 aj R (.str w_) U)) (aa R))))) (aa R)) (aa R)) (aa R)) (aa R)) (aa R)) (aa R))
def Mw : Prop :=
 af K 221 [a0] U (au (fun v4 U =>
 ad K (ar v4 false) (av.val a0) (fun v6 =>
 ad K (ar v4 false) (ak .geq aE true v6 (.int .u8 65)) (fun v7 =>
 ad K (ar v4 false) (av.val v7) (fun v8 =>
 ad K (ar v8 true) (av.val a0) (fun v9 =>
 ad K (ar v8 true) (ak .leq aE true v9 (.int .u8 90)) (fun v10 =>
 ad K (ar v4 false) (aR v8 v10 (.bool false)) (fun v11 =>
 (aR v4 (.bool true) v11).wp K U (fun v12 U =>
 aj R v12 U) (aa R)))))))) (aa R))
def My : Prop :=
 (aP (some (9, 1)) (some [.str []]) 1 false [(0, (.str Eh))]).wp K U (fun v7 U =>
 af K 105 [a0, v7] U (au (fun v8 U =>
 ao v8 (
 af K 99 [a0, (.int .u8 35)] U (au (fun v10 U =>
 af K 102 [a0, (.str Eh)] U (au (fun v12 U =>
 af K 102 [a0, (.str o7)] U (au (fun bP U =>
 af K 106 [a0, v10, (.func (.func 278) [a0] [])] U (au (fun cH U =>
 af K 102 [a0, (.str pW)] U (au (fun v21 U =>
 af K 169 [a0] U (au (fun v24 U =>
 (aP (some (87, 1)) (some [.a7]) 1 false [(0, v24)]).wp K U (fun ek U =>
 af K 103 [v10, ek] U (au (fun dK U =>
 aj R dK U) (aa R))) (aa R)) (aa R))) (aa R))) (aa R))) (aa R))) (aa R))) (aa R))) (
 (aP (some (9, 1)) (some [.str []]) 1 false [(0, (.str wM))]).wp K U (fun cz U =>
 af K 105 [a0, cz] U (au (fun v30 U =>
 ao v30 (
 af K 99 [a0, (.int .u8 36)] U (au (fun fF U =>
 af K 102 [a0, (.str wM)] U (au (fun fG U =>
 af K 102 [a0, (.str B5)] U (au (fun eX U =>
 af K 169 [a0] U (au (fun iJ U =>
 (aP (some (87, 1)) (some [.a7]) 1 false [(0, iJ)]).wp K U (fun v40 U =>
 af K 103 [fF, v40] U (au (fun jE U =>
 af K 102 [a0, (.str rJ)] U (au (fun eo U =>
 af K 102 [a0, (.str B7)] U (au (fun jX U =>
 af K 278 [a0] U (au (fun gV U =>
 (aP (some (87, 1)) (some [.a7]) 1 false [(0, gV)]).wp K U (fun v49 U =>
 af K 103 [fF, v49] U (au (fun lx U =>
 af K 102 [a0, (.str zx)] U (au (fun j6 U =>
 af K 169 [a0] U (au (fun iX U =>
 (aP (some (87, 1)) (some [.a7]) 1 false [(0, iX)]).wp K U (fun mQ U =>
 af K 103 [fF, mQ] U (au (fun ly U =>
 af K 102 [a0, (.str zy)] U (au (fun v59 U =>
 aj R fF U) (aa R))) (aa R))) (aa R)) (aa R))) (aa R))) (aa R))) (aa R)) (aa R))) (aa R))) (aa R))) (aa R))) (aa R)) (aa R))) (aa R))) (aa R))) (aa R))) (
 af K 109 [a0] U (au (fun sZ U =>
 aj R sZ U) (aa R)))) (aa R))) (aa R))) (aa R))) (aa R)
def MA : Prop :=
 af K 99 [a0, (.int .u8 37)] U (au (fun v5 U =>
 af K 101 [a0] U (au (fun v8 U =>
 (bC v5).wp K U (fun v9 U =>
 (ag (some 0) v9).wp K U (fun v10 U =>
 (ag (some 1) v10).wp K U (fun v11 U =>
 (aM aK v11 v8 U).wp K U (fun _ U =>
 aj R v5 U) (aa R)) (aa R)) (aa R)) (aa R)) (aa R))) (aa R))
end
section
variable {a0 a1 a2 a3 a4 a5 a6 : AV} {R : cB -> St -> Prop} {U : St}
theorem K8 (h : K7 a0 a1 a2 a3 R U) : af K 155 [a0, a1, a2, a3] U R := br Tryz.f155 S8 h
theorem La (h : K9 a0 R U) : af K 158 [a0] U R := br Tryz.f158 S9 h
theorem Lc (h : Lb a0 R U) : af K 159 [a0] U R := br Tryz.f159 Ta h
theorem Lf (h : Ld a0 R U) : af K 160 [a0] U R := br Tryz.f160 Tb h
theorem Lh (h : Lg a0 R U) : af K 161 [a0] U R := br Tryz.f161 Tc h
theorem Lj (h : Li a0 R U) : af K 162 [a0] U R := br Tryz.f162 Td h
theorem Ll (h : Lk a0 R U) : af K 163 [a0] U R := br Tryz.f163 Te h
theorem Ln (h : Lm a0 R U) : af K 164 [a0] U R := br Tryz.f164 Tf h
theorem Lo (h : VU a0 a1 R U) : af K 165 [a0, a1] U R := br Tryz.f165 Tg h
theorem Lp (h : VV a0 R U) : af K 166 [a0] U R := br Tryz.f166 Th h
theorem Lr (h : Lq a0 a1 R U) : af K 167 [a0, a1] U R := br Tryz.f167 Ti h
theorem Ls (h : VW a0 R U) : af K 168 [a0] U R := br Tryz.f168 Tj h
theorem Lu (h : Lt a0 R U) : af K 169 [a0] U R := br Tryz.f169 Tl h
theorem Lw (h : Lv a0 a1 R U) : af K 172 [a0, a1] U R := br Tryz.f172 Tm h
theorem Lx (h : VX a0 a1 R U) : af K 178 [a0, a1] U R := br Tryz.f178 Tn h
theorem Lz (h : Ly a0 R U) : af K 179 [a0] U R := br Tryz.f179 To h
theorem LB (h : LA a0 R U) : af K 181 [a0] U R := br Tryz.f181 Tp h
theorem LF (h : LC a0 R U) : af K 185 [a0] U R := br Tryz.f185 Tq h
theorem LH (h : LG a0 R U) : af K 191 [a0] U R := br Tryz.f191 Tr h
theorem LJ (h : LI a0 R U) : af K 206 [a0] U R := br Tryz.f206 Ts h
theorem LL (h : LK a0 R U) : af K 207 [a0] U R := br Tryz.f207 Tt h
theorem LN (h : LM a0 R U) : af K 208 [a0] U R := br Tryz.f208 Tu h
theorem LP (h : LO a0 a1 R U) : af K 209 [a0, a1] U R := br Tryz.f209 Tv h
theorem BB (h : DT a0 a1 R U) : af K 210 [a0, a1] U R := br Tryz.f210 Tw h
theorem LR (h : LQ a0 R U) : af K 211 [a0] U R := br Tryz.f211 Tx h
theorem BC (h : VY a0 a1 R U) : af K 212 [a0, a1] U R := br Tryz.f212 Ty h
theorem LS (h : VZ a0 a1 R U) : af K 215 [a0, a1] U R := br Tryz.f215 Tz h
theorem LV (h : LU a0 R U) : af K 216 [a0] U R := br Tryz.f216 TA h
theorem LX (h : LW a0 a1 R U) : af K 219 [a0, a1] U R := br Tryz.f219 TB h
theorem LZ (h : LY a0 a1 R U) : af K 220 [a0, a1] U R := br Tryz.f220 TC h
theorem L5 (h : L0 a0 R U) : af K 221 [a0] U R := br Tryz.f221 TD h
theorem L7 (h : L6 a0 a1 R U) : af K 222 [a0, a1] U R := br Tryz.f222 TE h
theorem Ma (h : L9 R U) : af K 223 [] U R := br Tryz.f223 TF h
theorem Mc (h : Mb a0 R U) : af K 224 [a0] U R := br Tryz.f224 TG h
theorem Me (h : Md a0 R U) : af K 225 [a0] U R := br Tryz.f225 TH h
theorem Mg (h : Mf R U) : af K 226 [] U R := br Tryz.f226 TJ h
theorem Mi (h : Mh a0 a1 a2 R U) : af K 227 [a0, a1, a2] U R := br Tryz.f227 TK h
theorem Ml (h : Mj a0 a1 R U) : af K 230 [a0, a1] U R := br Tryz.f230 TL h
theorem Mn (h : Mm a0 a1 R U) : af K 236 [a0, a1] U R := br Tryz.f236 TM h
theorem Mp (h : Mo a0 a1 R U) : af K 242 [a0, a1] U R := br Tryz.f242 TN h
theorem Mr (h : Mq a0 a1 R U) : af K 246 [a0, a1] U R := br Tryz.f246 TO h
theorem Mt (h : Ms a0 R U) : af K 252 [a0] U R := br Tryz.f252 TP h
theorem Mv (h : Mu a0 R U) : af K 253 [a0] U R := br Tryz.f253 TQ h
theorem Mx (h : Mw a0 R U) : af K 254 [a0] U R := br Tryz.f254 TR h
theorem Mz (h : My a0 R U) : af K 269 [a0] U R := br Tryz.f269 TS h
theorem MB (h : MA a0 R U) : af K 278 [a0] U R := br Tryz.f278 TT h
end
end Go.Rip
