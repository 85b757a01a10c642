/- Lemmas for the proof: no conditions. -/
import Derived.Test.YtnfpmiiopiinbaaGreatDoorRipZz
import Derived.Test.YtnfpmiiopiinbaaGreatDoorRipD
set_option linter.unusedVariables false
set_option linter.unusedSimpArgs false
set_option linter.loopingSimpArgs false
set_option maxRecDepth 100000
namespace Go.Rip
open Go.Proofs
def TA : An := ai (.bk (.lp [0, 2, 3, 5] (aM (ai (.cd .z .z)) (aM (.bk (ai (.cd .z .z))) dz))))
def TB : An := aM (.rg [4] [] none) (.sq (some [0, 1]) (aM (.rg [5, 6] [] none) (.cd (.rg [7] [] none) .z)) (.sq (some [0]) (aM (.rg [1, 8, 9, 10, 11, 12, 13, 14] [] none) (aM (.rg [15, 16] [] none) (.cd (.rg [0, 17, 18, 19, 20, 21, 22, 23, 24, 25] [] none) .z))) (aM (.rg [4, 26] [] none) .z)))
def TC : An := ai (ai (aM (ai (.bk (.lp [0, 3, 8, 9, 10] (ai (aM (.cd .z .z) (aM (.bk (ai (ai dz))) dz)))))) (ai .z)))
def TD : An := ai (ai (aM (ai (.bk (.lp [0, 3, 8, 9, 10] (ai (aM (.cd .z .z) (aM (.bk (ai (ai dz))) dz)))))) (ai .z)))
def TE : An := ai (ai (ai (ai (ai (ai (ai (ai (ai (ai .z)))))))))
def TF : An := ai (ai (ai (ai (ai (ai (ai (ai .z)))))))
def TG : An := ai (ai (ai (ai (ai (ai .z)))))
def TH : An := ai (ai (ai (ai (ai (ai (ai (ai .z)))))))
def TJ : An := ai (aM (aM (.rg [] [] (some ⟨[(true, 0), (true, 1), (true, 2), (true, 3), (true, 4), (true, 5), (true, 6), (true, 7), (true, 8), (true, 9)], [⟨8, 1, 0⟩, ⟨16, 8, 1⟩, ⟨32, 16, 2⟩, ⟨64, 32, 4⟩, ⟨128, 1, 0⟩, ⟨256, 128, 16⟩, ⟨512, 256, 32⟩, ⟨1024, 512, 64⟩, ⟨2048, 1024, 128⟩, ⟨4096, 2112, 264⟩]⟩)) (.cd (aM (.rg [] [] (some ⟨[(true, 0), (true, 1), (true, 2), (true, 3), (true, 4), (true, 5), (true, 6), (true, 7), (true, 8), (true, 9), (true, 10), (true, 11)], [⟨8192, 1, 0⟩, ⟨16384, 8192, 1⟩, ⟨32768, 16384, 2⟩, ⟨65536, 32768, 4⟩, ⟨131072, 1, 0⟩, ⟨262144, 131072, 16⟩, ⟨524288, 262144, 32⟩, ⟨1048576, 524288, 64⟩, ⟨2097152, 1114112, 136⟩, ⟨4194304, 2097152, 256⟩, ⟨8388608, 4194304, 512⟩, ⟨4, 8388608, 2047⟩]⟩)) .z) .z)) (ai .z))
def TK : An := ai (ai (.sq (some [0, 5]) (ai (.cd dz .z)) (ai (ai .z))))
def TL : An := dz
def TM : An := ai (aM (aM (.rg [] [] (some ⟨[(true, 0), (true, 1), (true, 2), (true, 3), (true, 4), (true, 5), (true, 6), (true, 7), (true, 8), (true, 9), (true, 10), (true, 11)], [⟨32, 1, 0⟩, ⟨64, 32, 1⟩, ⟨128, 64, 2⟩, ⟨256, 128, 4⟩, ⟨512, 2, 0⟩, ⟨1024, 768, 24⟩, ⟨2048, 1, 0⟩, ⟨4096, 2048, 64⟩, ⟨8192, 4096, 128⟩, ⟨16384, 8192, 256⟩, ⟨32768, 16384, 512⟩, ⟨65536, 33792, 1056⟩]⟩)) (.cd (aM (.rg [] [] (some ⟨[(true, 0), (true, 1), (true, 2), (true, 3), (true, 4), (true, 5), (true, 6), (true, 7), (true, 8), (true, 9), (true, 10), (true, 11), (false, 12)], [⟨131072, 1, 0⟩, ⟨262144, 131072, 1⟩, ⟨524288, 262144, 2⟩, ⟨1048576, 524288, 4⟩, ⟨2097152, 1, 0⟩, ⟨4194304, 2097152, 16⟩, ⟨8388608, 4194304, 32⟩, ⟨16777216, 8388608, 64⟩, ⟨33554432, 2, 0⟩, ⟨67108864, 50331648, 384⟩, ⟨134217728, 68157440, 520⟩, ⟨268435456, 134217728, 1024⟩, ⟨0, 268435472, 4095⟩]⟩)) .z) .z)) (ai .z))
def TN : An := ai (ai (.sq (some [3]) (ai (.cd dz .z)) (ai .z)))
def TO : An := ai (ai (aM (aM (.rg [] [] (some ⟨[(true, 0), (true, 1), (true, 2), (true, 3), (true, 4), (true, 5), (true, 6), (true, 7), (true, 8), (true, 9), (true, 10), (true, 11)], [⟨1024, 1, 0⟩, ⟨2048, 1024, 1⟩, ⟨4096, 2048, 2⟩, ⟨8192, 4096, 4⟩, ⟨16384, 8, 0⟩, ⟨32768, 16384, 16⟩, ⟨65536, 40960, 40⟩, ⟨512, 65536, 64⟩, ⟨131072, 512, 128⟩, ⟨262144, 512, 128⟩, ⟨16, 131072, 511⟩, ⟨32, 262144, 2047⟩]⟩)) (ai (.cd (ai .z) .z))) (aM (.sq (some [0, 36]) (.rg [] [121] none) (.cd (ai (ai (ai (ai .z)))) .z)) (ai .z))))
def TP : An := ai (ai (aM (.bk (aM (.rg [] [221] none) (.cd (aM (ai (.cd (ai .z) .z)) (aM (ai (.cd (ai .z) .z)) (ai .z))) (aM (.rg [] [224] none) (.cd (aM (ai (ai (.cd (ai .z) .z))) (ai .z)) .z))))) (ai (aM (ai (.bk (.lp [0, 1, 4, 8, 9] (aM (ai (.cd .z .z)) (aM (.bk (ai (.cd (ai .z) .z))) dz))))) (ai .z)))))
def TQ : An := ai (ai .z)
def TR : An := ai (ai .z)
def TS : An := ai (ai .z)
def TT : An := ai (ai .z)
def TU : An := ai (ai .z)
def TV : An := ai (ai .z)
def TW : An := ai (ai .z)
def TX : An := ai (ai (ai .z))
def TY : An := ai (aM (ai (.bk (.lp [0, 1, 11, 12, 13] (ai (aM (.cd .z .z) (aM (.bk (ai (ai (aM (ai (.bk (.lp [0, 1, 6, 7, 11, 12, 13, 21, 22, 23] (ai (aM (.cd .z .z) (aM (.bk (ai dz)) dz)))))) (ai (aM (.bk (.lp [0, 1, 6, 7, 10, 11, 12, 13] (aM (.sq (some [0, 1, 6, 7, 10, 11, 12, 13, 52]) (.rg [] [] (some ⟨[(true, 0), (true, 1), (true, 2), (true, 3), (true, 4), (true, 5), (true, 6), (true, 7), (true, 8), (true, 9), (true, 10), (true, 11), (true, 12), (true, 13), (true, 14), (true, 15), (true, 16), (true, 17), (true, 18), (false, 19), (true, 20)], [⟨4294967296, 1024, 0⟩, ⟨8589934592, 1, 0⟩, ⟨17179869184, 8589934592, 2⟩, ⟨34359738368, 128, 0⟩, ⟨68719476736, 51539607552, 12⟩, ⟨137438953472, 73014444032, 17⟩, ⟨274877906944, 137438953472, 32⟩, ⟨549755813888, 274877907968, 64⟩, ⟨1099511627776, 274877907008, 64⟩, ⟨2199023255552, 1374389534720, 320⟩, ⟨4398046511104, 3023656976384, 704⟩, ⟨8796093022208, 4672924418048, 1088⟩, ⟨17592186044416, 8796093022208, 2112⟩, ⟨35184372088832, 17592186044480, 4096⟩, ⟨70368744177664, 52776558133248, 12288⟩, ⟨140737488355328, 17592186044417, 4096⟩, ⟨281474976710656, 17592186045440, 4096⟩, ⟨562949953421312, 439804651110400, 102400⟩, ⟨1125899906842624, 580542139465728, 135168⟩, ⟨2251799813685248, 1213860837064704, 282624⟩, ⟨4503599627370496, 2269391999729664, 528384⟩]⟩)) (.cd .z .z)) (.bk dz)))) (aM (ai (.cd (ai .z) .z)) dz))))))) dz)))))) (ai .z))
def TZ : An := ai (aM (ai (.bk (.lp [0, 1, 7, 8] (ai (aM (.cd .z .z) (aM (.bk (ai (ai (.cd (ai .z) .z)))) dz)))))) (ai .z))
def T0 : An := ai (aM (ai (.cd (ai .z) .z)) (ai (ai .z)))
def T1 : An := ai (aM (ai (ai (.cd (aM (.rg [] [] (some ⟨[(true, 0), (true, 1), (true, 2), (true, 3), (true, 4), (true, 5), (true, 6), (true, 7), (true, 8), (true, 9), (true, 10), (true, 11)], [⟨8192, 1, 0⟩, ⟨16384, 128, 0⟩, ⟨32768, 24576, 3⟩, ⟨65536, 1, 0⟩, ⟨131072, 128, 0⟩, ⟨262144, 2, 0⟩, ⟨524288, 262144, 32⟩, ⟨1048576, 655360, 80⟩, ⟨2097152, 1114112, 136⟩, ⟨16, 32768, 7⟩, ⟨32, 2097152, 1023⟩, ⟨64, 0, 2047⟩]⟩)) .z) .z))) (ai .z))
def T4 : An := ai (ai .z)
def T9 : An := ai (aM (.bk (ai (.cd (ai .z) (ai (.cd (ai .z) (ai (.cd (ai .z) (ai (.cd (ai .z) (ai (.cd (ai .z) .z))))))))))) (ai .z))
def Ua : An := ai (aM (ai (.bk (ai (.cd (ai .z) (ai (.cd (aM (ai (ai (.cd (ai .z) .z))) (ai .z)) .z)))))) (ai (.bk (.lp [0, 1, 6] (.bk (aM (.rg [] [] (some ⟨[(true, 0), (true, 1), (true, 2), (true, 3), (true, 4), (true, 5), (true, 6), (false, 7), (true, 8), (true, 9), (true, 10), (true, 11), (true, 12), (true, 13)], [⟨34359738368, 1, 0⟩, ⟨68719476736, 34359738368, 1⟩, ⟨137438953472, 68719476736, 2⟩, ⟨274877906944, 137438953472, 4⟩, ⟨549755813888, 2, 0⟩, ⟨1099511627776, 824633720832, 24⟩, ⟨2199023255552, 1, 0⟩, ⟨4398046511104, 2199023255552, 64⟩, ⟨8796093022208, 5497558138880, 160⟩, ⟨17179869184, 8796093022208, 256⟩, ⟨17592186044416, 17179869184, 512⟩, ⟨35184372088832, 17179869184, 512⟩, ⟨128, 17592186044416, 2047⟩, ⟨256, 35184372088832, 8191⟩]⟩)) (aM (ai (.cd (ai .z) .z)) (ai (ai (aM (ai (.cd (ai (ai .z)) .z)) (ai (ai (.cd (ai .z) .z)))))))))))))
def Ub : An := ai (ai (aM (.bk (.lp [0, 1, 5] (aM (aM (.rg [] [224, 254] none) (.cd .z .z)) (.bk dz)))) (ai .z)))
def Uc : An := ai (ai .z)
def Ud : An := ai (aM (ai (.bk (.lp [0, 1, 5] (aM (ai (.cd .z .z)) (aM (.bk (ai (.cd (ai .z) .z))) dz))))) (ai .z))
def Ue : An := ai (ai .z)
def Uf : An := ai (ai .z)
def Ug : An := ai (ai (aM (ai (.bk (.lp [0, 3, 4] (aM (ai (.cd .z .z)) (aM (.bk (aM (ai (.cd (ai .z) .z)) dz)) dz))))) (aM (ai (.cd (ai .z) .z)) (ai .z))))
def Uh : An := ai (ai .z)
def Ui : An := ai (ai .z)
def Uj : An := ai (aM (ai (.bk (.lp [0, 1, 7, 8] (ai (aM (.cd .z .z) (aM (.bk (ai (ai (.cd (ai .z) .z)))) dz)))))) (ai .z))
def Uk : An := ai (aM (ai (.bk (.lp [1, 13] (ai (aM (.cd .z .z) (.bk (ai (ai (.bk (.lp [1, 5, 13, 20] (ai (aM (.cd .z .z) (.bk (ai (ai (.cd (ai .z) .z)))))))))))))))) (aM (.bk (ai (.cd (ai .z) (ai (.cd (ai .z) (ai (.cd (ai .z) .z))))))) (ai .z)))
def Ul : An := ai (ai .z)
def Um : An := ai (aM (ai (.bk (.lp [0, 1, 7, 8] (ai (aM (.cd .z .z) (aM (.bk (ai (ai (.cd (ai .z) .z)))) dz)))))) (ai .z))
def Un : An := ai (ai (aM (ai (ai (.cd (ai (ai (.sq (some [6]) (ai (.cd dz .z)) (ai .z)))) .z))) (aM (ai (.cd (ai (ai (ai .z))) .z)) (aM (ai (.cd (ai (ai (ai .z))) .z)) (ai (ai (.sq (some [9]) (ai (.cd (ai (ai dz)) .z)) (ai .z))))))))
def Uo : An := ai (aM (ai (ai (.cd (ai .z) .z))) (ai .z))
def Up : An := ai (ai .z)
def Uq : An := ai (aM (.bk (ai (.cd (ai (ai (ai (ai (ai (ai .z)))))) (ai (.cd (ai (ai (ai (ai (ai (ai (ai (ai (ai (ai (ai .z))))))))))) .z))))) (ai .z))
def Ur : An := ai (ai (ai (ai .z)))
section
variable (a0 a1 a2 a3 a4 a5 a6 : AV) (R : cD -> St -> Prop) (U : St)
def LK : Prop :=
 (ao aK a1 U).wp K U (fun v6 U =>
 (aj .add aD true v6 (.int .i64 1)).wp K U (fun v7 U =>
 cK 4 [a0, a2, a3, v7] U fun lp v0 v2 v3 v5 U =>
 (ao aK v2 U).wp K U (fun v9 U =>
 (aj .lss aD false v5 v9).wp K U (fun v10 U =>
 ad K (ar v10 true) (ag (some 0) v3) (fun v12 =>
 ad K (ar v10 true) (ag (some 0) v12) (fun bI =>
 ad K (ar v10 true) (ao aK bI U) (fun bS =>
 ad K (ar v10 true) (au.val v5) (fun bH =>
 ad K (ar v10 true) (aF (some (43, 6)) none bS bH) (fun cG =>
 ad K (ar v10 true) (ag (some 5) cG) (fun cA =>
 ad K (ar v10 true) (ao aK cA U) (fun bZ =>
 ad K (ar v10 true) (aj .gtr aD true bZ (.int .i64 0)) (fun cH =>
 (aQ v10 cH (.bool false)).wp K U (fun v20 U =>
 aq v20 (
 (gp K.P v0 [v5]).wp K U (fun fG U =>
 (fF .not fG).wp K U (fun dP U =>
 aq dP (
 ak R (.aR []) U) (
 (ag (some 0) v3).wp K U (fun cm U =>
 (ag (some 0) cm).wp K U (fun du U =>
 (ao aK du U).wp K U (fun v24 U =>
 (aF (some (43, 6)) none v24 v5).wp K U (fun dE U =>
 (ag (some 5) dE).wp K U (fun di U =>
 (ao aK di U).wp K U (fun v28 U =>
 (aj .add aD false v5 v28).wp K U (fun cC U =>
 lp v0 v2 v3 cC U) (aa R)) (aa R)) (aa R)) (aa R)) (aa R)) (aa R)) (aa R))) (aa R)) (aa R)) (
 ak R (.aR []) U)) (aa R)))))))))) (aa R)) (aa R)) (aa R)) (aa R)
def LM : Prop :=
 gG 2 (fun v0 v1 U =>
 gG 1 (fun kh U =>
 ak R kh U) fun BS =>
 (vJ (some (43, 6)) v0).wp K U (fun v10 U =>
 (bz (some false) v0).wp K U (fun v12 U =>
 (aj .sub aD false v10 v12).wp K U (fun bI U =>
 (aj .sub aD false v1 bI).wp K U (fun bS U =>
 (aj .gtr aD true bS (.int .i64 0)).wp K U (fun cG U =>
 aq cG (
 (vJ (some (43, 6)) v0).wp K U (fun cH U =>
 (dx false (some (43, 6)) v0 none (some cH)).wp K U (fun v20 U =>
 (w8 (43, 6, [.int .u8 0, .str [], .int .i64 0, .int .i64 0, .int .i64 0, .int .i64 0]) true v20 bS).wp K U (fun cm U =>
 (bz (some false) v0).wp K U (fun v24 U =>
 (dx false (some (43, 6)) cm none (some v24)).wp K U (fun dO U =>
 BS dO U) (aa R)) (aa R)) (aa R)) (aa R)) (aa R)) (
 BS v0 U)) (aa R)) (aa R)) (aa R)) (aa R)) (aa R)) fun j =>
 (aj .lss aD true a1 (.int .i64 0)).wp K U (fun v6 U =>
 aq v6 (
 (oA true 9 (.str ru)).wp K U (fun v7 U =>
 (oD v7).wp K U (fun _ U =>
 j a0 a1 U) (aa R)) (aa R)) (
 j a0 a1 U)) (aa R)
def LO : Prop :=
 af K 99 [a0, (.int .u8 10)] U (ax (fun v7 U =>
 (aO (some (9, 1)) (some [.str []]) 3 false [(0, (.str yV)), (1, (.str tQ)), (2, (.str lf))]).wp K U (fun v8 U =>
 (bz (some false) v8).wp K U (fun v9 U =>
 cK 5 [a0, v7, v8, v9, (.int .i64 0)] U fun lp v0 v3 fl jh v10 U =>
 (aj .lss aD false v10 jh).wp K U (fun v11 U =>
 aq v11 (
 (aF (some (9, 1)) none fl v10).wp K U (fun v12 U =>
 (ao aK v12 U).wp K U (fun bI U =>
 af K 102 [v0, bI] U (ax (fun cG U =>
 af K 169 [v0] U (ax (fun cH U =>
 (aO (some (87, 1)) (some [.a8]) 1 false [(0, cH)]).wp K U (fun v20 U =>
 af K 103 [v3, v20] U (ax (fun v21 U =>
 (aj .add aD true v10 (.int .i64 1)).wp K U (fun cm U =>
 lp v0 v3 fl jh cm U) (aa R)) (aa R))) (aa R)) (aa R))) (aa R))) (aa R)) (aa R)) (
 ak R v3 U)) (aa R)) (aa R)) (aa R)) (aa R))
def LQ : Prop :=
 af K 99 [a0, (.int .u8 11)] U (ax (fun v7 U =>
 (aO (some (9, 1)) (some [.str []]) 2 false [(0, (.str pj)), (1, (.str Bi))]).wp K U (fun v8 U =>
 (bz (some false) v8).wp K U (fun v9 U =>
 cK 5 [a0, v7, v8, v9, (.int .i64 0)] U fun lp v0 v3 fl jh v10 U =>
 (aj .lss aD false v10 jh).wp K U (fun v11 U =>
 aq v11 (
 (aF (some (9, 1)) none fl v10).wp K U (fun v12 U =>
 (ao aK v12 U).wp K U (fun bI U =>
 af K 102 [v0, bI] U (ax (fun cG U =>
 af K 169 [v0] U (ax (fun cH U =>
 (aO (some (87, 1)) (some [.a8]) 1 false [(0, cH)]).wp K U (fun v20 U =>
 af K 103 [v3, v20] U (ax (fun v21 U =>
 (aj .add aD true v10 (.int .i64 1)).wp K U (fun cm U =>
 lp v0 v3 fl jh cm U) (aa R)) (aa R))) (aa R)) (aa R))) (aa R))) (aa R)) (aa R)) (
 ak R v3 U)) (aa R)) (aa R)) (aa R)) (aa R))
def LS : Prop :=
 af K 99 [a0, (.int .u8 12)] U (ax (fun v5 U =>
 af K 102 [a0, (.str xB)] U (ax (fun v7 U =>
 af K 101 [a0] U (ax (fun v10 U =>
 (bF v5).wp K U (fun v11 U =>
 (ag (some 0) v11).wp K U (fun v12 U =>
 (ag (some 1) v12).wp K U (fun bI U =>
 (aL aK bI v10 U).wp K U (fun _ U =>
 af K 102 [a0, (.str xw)] U (ax (fun bH U =>
 af K 168 [a0] U (ax (fun bZ U =>
 (bF v5).wp K U (fun cH U =>
 (ag (some 0) cH).wp K U (fun v20 U =>
 (ag (some 2) v20).wp K U (fun v21 U =>
 (aL aK v21 bZ U).wp K U (fun _ U =>
 af K 102 [a0, (.str da)] U (ax (fun du U =>
 af K 168 [a0] U (ax (fun dE U =>
 (bF v5).wp K U (fun di U =>
 (ag (some 0) di).wp K U (fun v28 U =>
 (ag (some 3) v28).wp K U (fun cC U =>
 (aL aK cC dE U).wp K U (fun _ U =>
 af K 102 [a0, (.str ry)] U (ax (fun v31 U =>
 af K 169 [a0] U (ax (fun eI U =>
 (aO (some (87, 1)) (some [.a8]) 1 false [(0, eI)]).wp K U (fun er U =>
 af K 103 [v5, er] U (ax (fun fq U =>
 ak R fq U) (aa R))) (aa R)) (aa R))) (aa R))) (aa R)) (aa R)) (aa R)) (aa R)) (aa R))) (aa R))) (aa R)) (aa R)) (aa R)) (aa R)) (aa R))) (aa R))) (aa R)) (aa R)) (aa R)) (aa R)) (aa R))) (aa R))) (aa R))
def LV : Prop :=
 af K 99 [a0, (.int .u8 13)] U (ax (fun v5 U =>
 af K 102 [a0, (.str qC)] U (ax (fun v7 U =>
 af K 101 [a0] U (ax (fun v10 U =>
 (bF v5).wp K U (fun v11 U =>
 (ag (some 0) v11).wp K U (fun v12 U =>
 (ag (some 1) v12).wp K U (fun bI U =>
 (aL aK bI v10 U).wp K U (fun _ U =>
 af K 102 [a0, (.str ry)] U (ax (fun bH U =>
 af K 169 [a0] U (ax (fun bZ U =>
 (aO (some (87, 1)) (some [.a8]) 1 false [(0, bZ)]).wp K U (fun cH U =>
 af K 103 [v5, cH] U (ax (fun v20 U =>
 af K 102 [a0, (.str lf)] U (ax (fun cm U =>
 af K 169 [a0] U (ax (fun dO U =>
 (aO (some (87, 1)) (some [.a8]) 1 false [(0, dO)]).wp K U (fun dE U =>
 af K 103 [v5, dE] U (ax (fun di U =>
 ak R di U) (aa R))) (aa R)) (aa R))) (aa R))) (aa R))) (aa R)) (aa R))) (aa R))) (aa R)) (aa R)) (aa R)) (aa R)) (aa R))) (aa R))) (aa R))
def LX : Prop :=
 af K 99 [a0, (.int .u8 15)] U (ax (fun v5 U =>
 af K 102 [a0, (.str pg)] U (ax (fun v7 U =>
 af K 169 [a0] U (ax (fun v10 U =>
 (aO (some (87, 1)) (some [.a8]) 1 false [(0, v10)]).wp K U (fun v11 U =>
 af K 103 [v5, v11] U (ax (fun v12 U =>
 af K 102 [a0, (.str lf)] U (ax (fun bS U =>
 af K 169 [a0] U (ax (fun cA U =>
 (aO (some (87, 1)) (some [.a8]) 1 false [(0, cA)]).wp K U (fun bZ U =>
 af K 103 [v5, bZ] U (ax (fun cH U =>
 ak R cH U) (aa R))) (aa R)) (aa R))) (aa R))) (aa R))) (aa R)) (aa R))) (aa R))) (aa R))
def LZ : Prop :=
 af K 99 [a0, (.int .u8 14)] U (ax (fun v5 U =>
 af K 102 [a0, (.str ph)] U (ax (fun v7 U =>
 af K 101 [a0] U (ax (fun v10 U =>
 (bF v5).wp K U (fun v11 U =>
 (ag (some 0) v11).wp K U (fun v12 U =>
 (ag (some 1) v12).wp K U (fun bI U =>
 (aL aK bI v10 U).wp K U (fun _ U =>
 af K 102 [a0, (.str da)] U (ax (fun bH U =>
 af K 168 [a0] U (ax (fun bZ U =>
 (bF v5).wp K U (fun cH U =>
 (ag (some 0) cH).wp K U (fun v20 U =>
 (ag (some 2) v20).wp K U (fun v21 U =>
 (aL aK v21 bZ U).wp K U (fun _ U =>
 af K 102 [a0, (.str ry)] U (ax (fun du U =>
 af K 169 [a0] U (ax (fun dE U =>
 (aO (some (87, 1)) (some [.a8]) 1 false [(0, dE)]).wp K U (fun di U =>
 af K 103 [v5, di] U (ax (fun v28 U =>
 ak R v28 U) (aa R))) (aa R)) (aa R))) (aa R))) (aa R)) (aa R)) (aa R)) (aa R)) (aa R))) (aa R))) (aa R)) (aa R)) (aa R)) (aa R)) (aa R))) (aa R))) (aa R))
def L5 : Prop :=
 (fun aG : St =>
 aw K (bF a0) (fun v4 =>
 aw K (ag (some 1) v4) (fun v5 =>
 aw K (ao aK v5 aG) (fun v6 =>
 aw K (bF a0) (fun v8 =>
 aw K (ag (some 0) v8) (fun v9 =>
 aw K (ao aK v9 aG) (fun v10 =>
 aw K (bz (some false) v10) (fun v11 =>
 aw K (aj .lss aD false v6 v11) (fun v12 =>
 aq v12 (
 (fun jq : St =>
 aw K (bF a0) (fun bS =>
 aw K (ag (some 0) bS) (fun bH =>
 aw K (ao aK bH jq) (fun cG =>
 aw K (bF a0) (fun bZ =>
 aw K (ag (some 1) bZ) (fun cH =>
 aw K (ao aK cH jq) (fun v20 =>
 aw K (aF (some (51, 3)) none cG v20) (fun v21 =>
 aw K (ag (some 2) v21) (fun cm =>
 aw K (ao aK cm jq) (fun du =>
 ak R du U)))))))))) U) (
 (bF a0).wp K U (fun dO U =>
 (ag (some 2) dO).wp K U (fun dE U =>
 (ao aK dE U).wp K U (fun di U =>
 ak R di U) (aa R)) (aa R)) (aa R))))))))))) U
def Wv : Prop :=
 af K 167 [a0, (.int .i64 0)] U (ax (fun v7 U =>
 (au.cq [.int .u8 0, .str [], .int .i64 0]).wp K U (fun v5 U =>
 (aL (some (true, 3)) v5 v7 U).wp K U (fun _ U =>
 gG 2 (fun v0 jO U =>
 (bF v0).wp K U (fun bH U =>
 (ag (some 1) bH).wp K U (fun cG U =>
 (ao aK cG U).wp K U (fun cA U =>
 (aj .add aD true cA (.int .i64 1)).wp K U (fun bZ U =>
 (bF v0).wp K U (fun cH U =>
 (ag (some 1) cH).wp K U (fun v20 U =>
 (aL aK v20 bZ U).wp K U (fun _ U =>
 (ag (some 1) jO).wp K U (fun v21 U =>
 (ao aK v21 U).wp K U (fun cm U =>
 ak R cm U) (aa R)) (aa R)) (aa R)) (aa R)) (aa R)) (aa R)) (aa R)) (aa R)) (aa R)) fun j =>
 (ag (some 0) v5).wp K U (fun v8 U =>
 (ao aK v8 U).wp K U (fun v9 U =>
 (aj .neq aD false v9 a1).wp K U (fun v11 U =>
 aq v11 (
 af K 166 [a0] U (ax (fun bI U =>
 j a0 v5 U) (aa R))) (
 j a0 v5 U)) (aa R)) (aa R)) (aa R)) (aa R)) (aa R)) (aa R))
def Ww : Prop :=
 af K 164 [a0] U (ax (fun v3 U =>
 (dj (some [(0, 1)]) (some [.int .i64 0]) none [(0, v3)]).wp K U (fun v4 U =>
 (oA true 136 v4).wp K U (fun v5 U =>
 (oD v5).wp K U (fun _ U =>
 ak R (.aR []) U) (aa R)) (aa R)) (aa R)) (aa R))
def Ma : Prop :=
 (au.cq [.int .u8 0, .str [], .int .i64 0]).wp K U (fun v4 U =>
 (fun aG : St =>
 aw K (bF a0) (fun v6 =>
 aw K (ag (some 1) v6) (fun v7 =>
 aw K (ao aK v7 aG) (fun v8 =>
 aw K (aj .add aD false v8 a1) (fun v10 =>
 aw K (bF a0) (fun v12 =>
 aw K (ag (some 0) v12) (fun bI =>
 aw K (ao aK bI aG) (fun bS =>
 aw K (bz (some false) bS) (fun bH =>
 aw K (aj .lss aD false v10 bH) (fun cG =>
 aq cG (
 (fun jq : St =>
 aw K (bF a0) (fun bZ =>
 aw K (ag (some 0) bZ) (fun cH =>
 aw K (ao aK cH jq) (fun v20 =>
 aw K (bF a0) (fun cm =>
 aw K (ag (some 1) cm) (fun du =>
 aw K (ao aK du jq) (fun v24 =>
 aw K (aj .add aD false v24 a1) (fun dE =>
 aw K (aF (some (51, 3)) none v20 dE) (fun di =>
 aw K (ao (some (true, 3)) di jq) (fun v28 =>
 (aL (some (true, 3)) v4 v28 U).wp K U (fun _ U =>
 br (some (true, 3)) v4 U fun r0 =>
 ak R r0 U) (aa R))))))))))) U) (
 (dj (some [(0, 1), (1, 1), (2, 1)]) (some [.int .u8 0, .str [], .int .i64 0]) none []).wp K U (fun cC U =>
 (aL (some (true, 3)) v4 cC U).wp K U (fun _ U =>
 br (some (true, 3)) v4 U fun nJ =>
 ak R nJ U) (aa R)) (aa R)))))))))))) U) (aa R)
def Wx : Prop :=
 af K 165 [a0, (.int .u8 2)] U (ax (fun v7 U =>
 af K 218 [v7] U (ax (fun v8 U =>
 (bq v8 0).wp K U (fun v9 U =>
 (bq v8 1).wp K U (fun v10 U =>
 gG 1 (fun v3 U =>
 ak R v3 U) fun j =>
 (aj .neq (BT.mk false true false none false) true v10 .cW).wp K U (fun v12 U =>
 aq v12 (
 af K 166 [a0] U (ax (fun bS U =>
 j v9 U) (aa R))) (
 j v9 U)) (aa R)) (aa R)) (aa R)) (aa R))) (aa R))
def Md : Prop :=
 af K 167 [a0, (.int .i64 0)] U (ax (fun v8 U =>
 (au.cq [.int .u8 0, .str [], .int .i64 0]).wp K U (fun v3 U =>
 (aL (some (true, 3)) v3 v8 U).wp K U (fun _ U =>
 (fun aG : St =>
 aw K (bF a0) (fun v11 =>
 aw K (ag (some 4) v11) (fun v12 =>
 aw K (ao aK v12 aG) (fun bI =>
 aw K (ag (some 1) v3) (fun bS =>
 aw K (ao aK bS aG) (fun bH =>
 aw K (fI (some (.s, 186)) (some .dh) bI bH true aG) (fun cG =>
 aw K (bq cG 0) (fun cA =>
 aw K (bq cG 1) (fun bZ =>
 ad K (ar bZ true) (ag (some 0) v3) (fun v21 =>
 ad K (ar bZ true) (ao aK v21 U) (fun cm =>
 ad K (ar bZ true) (aj .eql aD true cm (.int .u8 3)) (fun du =>
 (aQ bZ du (.bool false)).wp K U (fun v24 U =>
 aq v24 (
 (gp K.P cA [a0]).wp K U (fun di U =>
 ak R di U) (aa R)) (
 gG 2 (fun v0 fq U =>
 aq fq (
 af K 99 [v0, (.int .u8 16)] U (ax (fun eY U =>
 af K 101 [v0] U (ax (fun gQ U =>
 (bF eY).wp K U (fun iH U =>
 (ag (some 0) iH).wp K U (fun dY U =>
 (ag (some 1) dY).wp K U (fun oM U =>
 (aL aK oM gQ U).wp K U (fun _ U =>
 af K 102 [v0, (.str da)] U (ax (fun v46 U =>
 af K 169 [v0] U (ax (fun v49 U =>
 (aO (some (87, 1)) (some [.a8]) 1 false [(0, v49)]).wp K U (fun ku U =>
 af K 103 [eY, ku] U (ax (fun v51 U =>
 ak R v51 U) (aa R))) (aa R)) (aa R))) (aa R))) (aa R)) (aa R)) (aa R)) (aa R)) (aa R))) (aa R))) (
 af K 219 [v0, (.int .i64 2)] U (ax (fun v53 U =>
 ak R v53 U) (aa R)))) fun j =>
 (ag (some 0) v3).wp K U (fun v28 U =>
 (ao aK v28 U).wp K U (fun cC U =>
 (aj .eql aD true cC (.int .u8 1)).wp K U (fun v30 U =>
 ad K (ar v30 true) (au.val a0) (fun fG =>
 aq (ar v30 true) (
 af K 167 [fG, (.int .i64 1)] U (ax (fun dP U =>
 ad K (ar v30 true) (aO (some (9, 1)) (some [.str []]) 1 false [(0, (.str da))]) (fun eI =>
 ad K (ar v30 true) (au.enter 121 [dP, eI]) (fun er =>
 (aQ v30 er (.bool false)).wp K U (fun pz U =>
 j a0 pz U) (aa R)))) (aa R))) (
 ad K (ar v30 true) (aO (some (9, 1)) (some [.str []]) 1 false [(0, (.str da))]) (fun Iw =>
 ad K (ar v30 true) (au.enter 121 [(.aR []), Iw]) (fun Ai =>
 (aQ v30 Ai (.bool false)).wp K U (fun YS U =>
 j a0 YS U) (aa R)))))) (aa R)) (aa R)) (aa R))) (aa R))))))))))))) U) (aa R)) (aa R)) (aa R))
def Mf : Prop :=
 (au.cq [.int .u8 0, .str [], .int .i64 0]).wp K U (fun v4 U =>
 af K 220 [a0, a1] U (ax (fun v12 U =>
 (aj .neq aD true v12 (.str w_)).wp K U (fun bH U =>
 ad K (ar bH true) (au.val v12) (fun cA =>
 ad K (ar bH true) (eE true none none cA (.int .i64 0)) (fun bZ =>
 ad K (ar bH true) (au.enter 221 [bZ]) (fun cH =>
 (aQ bH cH (.bool false)).wp K U (fun v20 U =>
 aq v20 (
 af K 223 [] U (ax (fun v21 U =>
 af K 222 [v21, v12] U (ax (fun du U =>
 aq du (
 (dj (some [(0, 1), (1, 1), (2, 1)]) (some [.int .u8 0, .str [], .int .i64 0]) none [(0, (.int .u8 3)), (1, v12), (2, a1)]).wp K U (fun dE U =>
 (aL (some (true, 3)) v4 dE U).wp K U (fun _ U =>
 br (some (true, 3)) v4 U fun r0 =>
 ak R (.aR [r0, (.int .i64 0)]) U) (aa R)) (aa R)) (
 (bz (some true) v12).wp K U (fun v28 U =>
 (aj .gtr aD true v28 (.int .i64 12)).wp K U (fun cC U =>
 aq cC (
 (dj (some [(0, 1), (1, 1), (2, 1)]) (some [.int .u8 0, .str [], .int .i64 0]) none []).wp K U (fun v30 U =>
 (aL (some (true, 3)) v4 v30 U).wp K U (fun _ U =>
 br (some (true, 3)) v4 U fun nJ =>
 ak R (.aR [nJ, (.int .i64 4)]) U) (aa R)) (aa R)) (
 (dj (some [(0, 1), (1, 1), (2, 1)]) (some [.int .u8 0, .str [], .int .i64 0]) none [(0, (.int .u8 1)), (1, v12), (2, a1)]).wp K U (fun dP U =>
 (aL (some (true, 3)) v4 dP U).wp K U (fun _ U =>
 br (some (true, 3)) v4 U fun o9 =>
 ak R (.aR [o9, (.int .i64 0)]) U) (aa R)) (aa R))) (aa R)) (aa R))) (aa R))) (aa R))) (
 (aj .neq aD true v12 (.str w_)).wp K U (fun fq U =>
 ad K (ar fq true) (au.val v12) (fun eY =>
 ad K (ar fq true) (eE true none none eY (.int .i64 0)) (fun je =>
 ad K (ar fq true) (au.enter 224 [je]) (fun v40 =>
 (aQ fq v40 (.bool false)).wp K U (fun gQ U =>
 aq gQ (
 af K 225 [v12] U (ax (fun dY U =>
 (aj .neq aD true dY (.int .i64 0)).wp K U (fun jf U =>
 aq jf (
 (dj (some [(0, 1), (1, 1), (2, 1)]) (some [.int .u8 0, .str [], .int .i64 0]) none []).wp K U (fun v46 U =>
 (aL (some (true, 3)) v4 v46 U).wp K U (fun _ U =>
 br (some (true, 3)) v4 U fun uN =>
 ak R (.aR [uN, dY]) U) (aa R)) (aa R)) (
 (dj (some [(0, 1), (1, 1), (2, 1)]) (some [.int .u8 0, .str [], .int .i64 0]) none [(0, (.int .u8 2)), (1, v12), (2, a1)]).wp K U (fun ku U =>
 (aL (some (true, 3)) v4 ku U).wp K U (fun _ U =>
 br (some (true, 3)) v4 U fun En =>
 ak R (.aR [En, (.int .i64 0)]) U) (aa R)) (aa R))) (aa R)) (aa R))) (
 af K 226 [] U (ax (fun v51 U =>
 cK 5 [a0, a1, v4, v51, (.int .i64 0)] U fun lp v0 v1 dN v8 v9 U =>
 (bz (some false) v8).wp K U (fun kj U =>
 (aj .lss aD false v9 kj).wp K U (fun iI U =>
 aq iI (
 (aF (some (9, 1)) none v8 v9).wp K U (fun tK U =>
 (ao aK tK U).wp K U (fun rm U =>
 af K 227 [v0, v1, rm] U (ax (fun mb U =>
 aq mb (
 (aF (some (9, 1)) none v8 v9).wp K U (fun oV U =>
 (ao aK oV U).wp K U (fun oN U =>
 (dj (some [(0, 1), (1, 1), (2, 1)]) (some [.int .u8 0, .str [], .int .i64 0]) none [(0, (.int .u8 4)), (1, oN), (2, v1)]).wp K U (fun v70 U =>
 (aL (some (true, 3)) dN v70 U).wp K U (fun _ U =>
 br (some (true, 3)) dN U fun yJ =>
 ak R (.aR [yJ, (.int .i64 0)]) U) (aa R)) (aa R)) (aa R)) (aa R)) (
 (aj .add aD true v9 (.int .i64 1)).wp K U (fun ky U =>
 lp v0 v1 dN v8 ky U) (aa R))) (aa R))) (aa R)) (aa R)) (
 (dj (some [(0, 1), (1, 1), (2, 1)]) (some [.int .u8 0, .str [], .int .i64 0]) none []).wp K U (fun rn U =>
 (aL (some (true, 3)) dN rn U).wp K U (fun _ U =>
 br (some (true, 3)) dN U fun Eo =>
 ak R (.aR [Eo, (.int .i64 4)]) U) (aa R)) (aa R))) (aa R)) (aa R)) (aa R)))) (aa R))))) (aa R))) (aa R))))) (aa R)) (aa R))) (aa R)
def Wy : Prop :=
 af K 230 [a0, a1] U (ax (fun v7 U =>
 (aj .geq aD true v7 (.int .i64 0)).wp K U (fun v8 U =>
 ak R v8 U) (aa R)) (aa R))
def Mi : Prop :=
 (aj .geq aD true a0 (.int .u8 2)).wp K U (fun v4 U =>
 ad K (ar v4 true) (au.val a0) (fun v6 =>
 ad K (ar v4 true) (aj .leq aD true v6 (.int .u8 4)) (fun v7 =>
 (aQ v4 v7 (.bool false)).wp K U (fun v8 U =>
 ak R v8 U) (aa R)))) (aa R)
def Ml : Prop :=
 af K 206 [a0] U (ax (fun v4 U =>
 ad K (ar v4 false) (au.val a0) (fun v6 =>
 ad K (ar v4 false) (aj .eql aD true v6 (.int .u8 8)) (fun v7 =>
 (aQ v4 (.bool true) v7).wp K U (fun v8 U =>
 ak R v8 U) (aa R)))) (aa R))
def Mn : Prop :=
 (aj .geq aD true a0 (.int .u8 9)).wp K U (fun v4 U =>
 ad K (ar v4 true) (au.val a0) (fun v6 =>
 ad K (ar v4 true) (aj .leq aD true v6 (.int .u8 34)) (fun v7 =>
 (aQ v4 v7 (.bool false)).wp K U (fun v8 U =>
 ak R v8 U) (aa R)))) (aa R)
def Mp : Prop :=
 (aj .geq aD true a0 (.int .u8 2)).wp K U (fun v4 U =>
 ad K (ar v4 true) (au.val a0) (fun v6 =>
 ad K (ar v4 true) (aj .leq aD true v6 (.int .u8 4)) (fun v7 =>
 (aQ v4 v7 (.bool false)).wp K U (fun v8 U =>
 ak R v8 U) (aa R)))) (aa R)
def Mr : Prop :=
 (aj .eql aD true a0 (.int .u8 6)).wp K U (fun v4 U =>
 ad K (ar v4 false) (au.val a0) (fun v6 =>
 ad K (ar v4 false) (aj .eql aD true v6 (.int .u8 7)) (fun v7 =>
 (aQ v4 (.bool true) v7).wp K U (fun v8 U =>
 ak R v8 U) (aa R)))) (aa R)
def Mt : Prop :=
 af K 185 [a0] U (ax (fun v4 U =>
 ad K (ar v4 false) (au.val a0) (fun v6 =>
 ad K (ar v4 false) (aj .eql aD true v6 (.int .u8 35)) (fun v7 =>
 (aQ v4 (.bool true) v7).wp K U (fun v8 U =>
 ad K (ar v8 false) (au.val a0) (fun v10 =>
 ad K (ar v8 false) (aj .eql aD true v10 (.int .u8 36)) (fun v11 =>
 (aQ v8 (.bool true) v11).wp K U (fun v12 U =>
 ak R v12 U) (aa R)))) (aa R)))) (aa R))
def Mv : Prop :=
 af K 33 [a0] U (ax (fun v8 U =>
 (bq v8 0).wp K U (fun v9 U =>
 (bq v8 1).wp K U (fun v10 U =>
 (bq v8 2).wp K U (fun v11 U =>
 (aj .eql aD true v11 (.int .i64 0)).wp K U (fun bI U =>
 ad K (ar bI true) (au.val v9) (fun bH =>
 ad K (ar bI true) (bz (some false) bH) (fun cG =>
 ad K (ar bI true) (aj .eql aD true cG (.int .i64 1)) (fun cA =>
 (aQ bI cA (.bool false)).wp K U (fun bZ U =>
 ad K (ar bZ true) (au.val v9) (fun v20 =>
 ad K (ar bZ true) (aF (some (51, 3)) none v20 (.int .i64 0)) (fun v21 =>
 ad K (ar bZ true) (ag (some 0) v21) (fun cm =>
 ad K (ar bZ true) (ao aK cm U) (fun du =>
 ad K (ar bZ true) (aj .eql aD true du (.int .u8 1)) (fun v24 =>
 (aQ bZ v24 (.bool false)).wp K U (fun dO U =>
 ad K (ar dO true) (au.val v9) (fun di =>
 ad K (ar dO true) (aF (some (51, 3)) none di (.int .i64 0)) (fun v28 =>
 ad K (ar dO true) (ag (some 1) v28) (fun cC =>
 ad K (ar dO true) (ao aK cC U) (fun v30 =>
 ad K (ar dO true) (au.val a0) (fun v31 =>
 ad K (ar dO true) (aj .eql aD false v30 v31) (fun fG =>
 (aQ dO fG (.bool false)).wp K U (fun dP U =>
 ak R dP U) (aa R)))))))) (aa R))))))) (aa R))))) (aa R)) (aa R)) (aa R)) (aa R)) (aa R))
def Mx : Prop :=
 (bz (some false) a1).wp K U (fun v12 U =>
 cK 5 [a0, a1, a1, v12, (.int .i64 0)] U fun lp v0 v1 v11 CF bI U =>
 (aj .lss aD false bI CF).wp K U (fun bS U =>
 aq bS (
 (aF (some (200, 3)) none v11 bI).wp K U (fun cG U =>
 (ao (some (true, 3)) cG U).wp K U (fun cA U =>
 (au.cq [.dh, .int .i64 0, .int .i64 0]).wp K U (fun v6 U =>
 (aL (some (true, 3)) v6 cA U).wp K U (fun _ U =>
 (aj .add aD true bI (.int .i64 1)).wp K U (fun v20 U =>
 (dx false (some (200, 3)) v1 (some v20) none).wp K U (fun v21 U =>
 (bz (some false) v21).wp K U (fun cm U =>
 cK 10 [v0, v1, v6, (.int .i64 0), v11, CF, bI, v21, cm, (.int .i64 0)] U fun o4 kh eN mc v7 qo Ru xp Rz RA du U =>
 (aj .lss aD false du RA).wp K U (fun v24 U =>
 aq v24 (
 (aF (some (200, 3)) none Rz du).wp K U (fun dO U =>
 (ao (some (true, 3)) dO U).wp K U (fun dE U =>
 (au.cq [.dh, .int .i64 0, .int .i64 0]).wp K U (fun v9 U =>
 (aL (some (true, 3)) v9 dE U).wp K U (fun _ U =>
 (ag (some 1) v9).wp K U (fun v28 U =>
 (ao aK v28 U).wp K U (fun cC U =>
 (aj .add aD false v7 cC).wp K U (fun v30 U =>
 (aj .add aD true du (.int .i64 1)).wp K U (fun v31 U =>
 o4 kh eN mc v30 qo Ru xp Rz RA v31 U) (aa R)) (aa R)) (aa R)) (aa R)) (aa R)) (aa R)) (aa R)) (aa R)) (
 cK 8 [kh, eN, mc, v7, (.int .i64 0), qo, Ru, xp] U fun D6 sS uY Bh nM v10 Rs Rv Ag U =>
 gG 9 (fun WQ sT W8 abw qn Rt Rw Ry kx U =>
 aq kx (
 (aj .add aD true qn (.int .i64 1)).wp K U (fun kj U =>
 D6 WQ sT W8 abw kj Rt Rw Ry U) (aa R)) (
 (ag (some 1) W8).wp K U (fun l9 U =>
 (ao aK l9 U).wp K U (fun ky U =>
 (aj .lss aD false qn ky).wp K U (fun ni U =>
 aq ni (
 ak R (.bool false) U) (
 (dx false (some (5, 1)) WQ (some qn) none).wp K U (fun p8 U =>
 (aj .add aD true Ry (.int .i64 1)).wp K U (fun tK U =>
 lp p8 sT Rt Rw tK U) (aa R)) (aa R))) (aa R)) (aa R)) (aa R))) fun j =>
 (fun aG : St =>
 aw K (bz (some false) sS) (fun eI =>
 aw K (aj .sub aD false eI nM) (fun fq =>
 aw K (aj .lss aD false v10 fq) (fun v37 =>
 ad K (ar v37 true) (au.val v10) (fun je =>
 ad K (ar v37 true) (ag (some 2) Bh) (fun v40 =>
 ad K (ar v37 true) (ao aK v40 aG) (fun gQ =>
 ad K (ar v37 true) (aj .lss aD false je gQ) (fun iH =>
 aw K (aQ v37 iH (.bool false)) (fun dY =>
 ad K (ar dY true) (ag (some 0) Bh) (fun jf =>
 ad K (ar dY true) (ao aK jf aG) (fun v46 =>
 ad K (ar dY true) (au.val sS) (fun ki =>
 ad K (ar dY true) (au.val v10) (fun jg =>
 ad K (ar dY true) (aF (some (5, 1)) none ki jg) (fun v49 =>
 ad K (ar dY true) (ao aK v49 aG) (fun ku =>
 aq (ar dY true) (
 (gp K.P v46 [ku]).wp K U (fun v51 U => cU ((cB v49 ++ []) ++ ((cB jf ++ []) ++ ((cB v40 ++ []) ++ []))) aG U /\
 aw K (aQ dY v51 (.bool false)) (fun YT =>
 j sS uY Bh nM v10 Rs Rv Ag YT U)) (aa R)) (
 aw K (aQ dY (.aR []) (.bool false)) (fun YU =>
 j sS uY Bh nM v10 Rs Rv Ag YU U))))))))))))))))) U)) (aa R)) (aa R)) (aa R)) (aa R)) (aa R)) (aa R)) (aa R)) (aa R)) (
 (bz (some false) v0).wp K U (fun mb U =>
 (aj .eql aD true mb (.int .i64 0)).wp K U (fun tL U =>
 ak R tL U) (aa R)) (aa R))) (aa R)) (aa R)
def Ew : Prop :=
 (bz (some false) a0).wp K U (fun v7 U =>
 cK 4 [a0, a1, v7, (.int .i64 0)] U fun lp v0 v1 nM v8 U =>
 (aj .lss aD false v8 nM).wp K U (fun v9 U =>
 aq v9 (
 (aF (some (3, 1)) none v0 v8).wp K U (fun bS U =>
 (ao aK bS U).wp K U (fun bH U =>
 (gp K.P v1 [bH]).wp K U (fun cG U =>
 aq cG (
 ak R v8 U) (
 (aj .add aD true v8 (.int .i64 1)).wp K U (fun bZ U =>
 lp v0 v1 nM bZ U) (aa R))) (aa R)) (aa R)) (aa R)) (
 ak R (.int .i64 (-1)) U)) (aa R)) (aa R)
def Mz : Prop :=
 (fh a0).wp K U (fun v1 U =>
 (ag (some 1) v1).wp K U (fun v5 U =>
 (ao aK v5 U).wp K U (fun v6 U =>
 (aj .eql aD true v6 (.str w_)).wp K U (fun v7 U =>
 aq v7 (
 ak R (.bool false) U) (
 (ag (some 1) v1).wp K U (fun v9 U =>
 (ao aK v9 U).wp K U (fun v10 U =>
 af K 172 [v10, (.int .i64 0)] U (ax (fun v11 U =>
 (bq v11 0).wp K U (fun v12 U =>
 (bq v11 1).wp K U (fun bI U =>
 (au.cq [.int .u8 0, .str [], .int .i64 0]).wp K U (fun v3 U =>
 (aL (some (true, 3)) v3 v12 U).wp K U (fun _ U =>
 (aj .eql aD true bI (.int .i64 0)).wp K U (fun bH U =>
 ad K (ar bH true) (ag (some 0) v3) (fun cA =>
 ad K (ar bH true) (ao aK cA U) (fun bZ =>
 ad K (ar bH true) (ag (some 0) v1) (fun cH =>
 ad K (ar bH true) (ao aK cH U) (fun v20 =>
 ad K (ar bH true) (aj .eql aD false bZ v20) (fun v21 =>
 (aQ bH v21 (.bool false)).wp K U (fun cm U =>
 ad K (ar cm true) (ag (some 1) v3) (fun v24 =>
 ad K (ar cm true) (ao aK v24 U) (fun dO =>
 ad K (ar cm true) (ag (some 1) v1) (fun dE =>
 ad K (ar cm true) (ao aK dE U) (fun di =>
 ad K (ar cm true) (aj .eql aD false dO di) (fun v28 =>
 (aQ cm v28 (.bool false)).wp K U (fun cC U =>
 ak R cC U) (aa R))))))) (aa R))))))) (aa R)) (aa R)) (aa R)) (aa R)) (aa R)) (aa R))) (aa R)) (aa R))) (aa R)) (aa R)) (aa R)) (aa R)
def Wz : Prop :=
 af K 243 [a0, a1] U (ax (fun v10 U =>
 (aj .geq aD true v10 (.int .i64 0)).wp K U (fun v12 U =>
 aq v12 (
 (fun aG : St =>
 aw K (dx true none a0 none (some v10)) (fun bH =>
 aw K (bz (some true) a1) (fun cH =>
 aw K (aj .add aD false v10 cH) (fun v20 =>
 aw K (dx true none a0 (some v20) none) (fun v21 =>
 ak R (.aR [bH, v21, (.bool true)]) U))))) U) (
 ak R (.aR [a0, (.str w_), (.bool false)]) U)) (aa R)) (aa R))
def WA : Prop :=
 af K 246 [a0, a1] U (ax (fun v7 U =>
 (aj .geq aD true v7 (.int .i64 0)).wp K U (fun v8 U =>
 ak R v8 U) (aa R)) (aa R))
def MC : Prop :=
 (aj .eql aD true a0 (.int .u8 32)).wp K U (fun v5 U =>
 ad K (ar v5 false) (au.val a0) (fun v7 =>
 ad K (ar v5 false) (aj .eql aD true v7 (.int .u8 10)) (fun v8 =>
 (aQ v5 (.bool true) v8).wp K U (fun v9 U =>
 aq v9 (
 ak R (.int .i64 1) U) (
 (aj .lss aD true a0 (.int .u8 32)).wp K U (fun v12 U =>
 ad K (ar v12 false) (au.val a0) (fun bS =>
 ad K (ar v12 false) (aj .gtr aD true bS (.int .u8 126)) (fun bH =>
 (aQ v12 (.bool true) bH).wp K U (fun cG U =>
 aq cG (
 ak R (.int .i64 0) U) (
 (aj .geq aD true a0 (.int .u8 48)).wp K U (fun cH U =>
 ad K (ar cH true) (au.val a0) (fun v21 =>
 ad K (ar cH true) (aj .leq aD true v21 (.int .u8 57)) (fun cm =>
 (aQ cH cm (.bool false)).wp K U (fun du U =>
 aq du (
 ak R (.int .i64 2) U) (
 (aj .geq aD true a0 (.int .u8 97)).wp K U (fun dE U =>
 ad K (ar dE true) (au.val a0) (fun v28 =>
 ad K (ar dE true) (aj .leq aD true v28 (.int .u8 122)) (fun cC =>
 (aQ dE cC (.bool false)).wp K U (fun v30 U =>
 aq v30 (
 ak R (.int .i64 3) U) (
 (aj .geq aD true a0 (.int .u8 65)).wp K U (fun dP U =>
 ad K (ar dP true) (au.val a0) (fun er =>
 ad K (ar dP true) (aj .leq aD true er (.int .u8 90)) (fun fq =>
 (aQ dP fq (.bool false)).wp K U (fun v37 U =>
 aq v37 (
 ak R (.int .i64 4) U) (
 ak R (.int .i64 5) U)) (aa R)))) (aa R))) (aa R)))) (aa R))) (aa R)))) (aa R))) (aa R)))) (aa R))) (aa R)))) (aa R)
def ME : Prop :=
 (aj .eql aD true a1 (.int .i64 9)).wp K U (fun v12 U =>
 aq v12 (
 af K 252 [a0] U (ax (fun bS U =>
 ak R bS U) (aa R))) (
 (aj .eql aD true a1 (.int .i64 4)).wp K U (fun cG U =>
 aq cG (
 af K 99 [a0, (.int .u8 19)] U (ax (fun bZ U =>
 af K 100 [a0, (.str CH)] U (ax (fun v20 U =>
 aq v20 (
 af K 219 [a0, (.int .i64 4)] U (ax (fun du U =>
 (aO (some (87, 1)) (some [.a8]) 1 false [(0, du)]).wp K U (fun v24 U =>
 af K 103 [bZ, v24] U (ax (fun dO U =>
 ak R dO U) (aa R))) (aa R)) (aa R))) (
 (aj .add aD true a1 (.int .i64 1)).wp K U (fun v28 U =>
 af K 219 [a0, v28] U (ax (fun cC U =>
 ak R cC U) (aa R))) (aa R))) (aa R))) (aa R))) (
 (aj .add aD true a1 (.int .i64 1)).wp K U (fun fG U =>
 af K 219 [a0, fG] U (ax (fun dP U =>
 cK 3 [a0, a1, dP] U fun lp v0 v1 v6 U =>
 (fun aG : St =>
 aw K (bF v0) (fun fq =>
 aw K (ag (some 3) fq) (fun v37 =>
 aw K (ao aK v37 aG) (fun eY =>
 aw K (fI (some (.i, 185)) (some .ke) eY v1 false aG) (fun v40 =>
 af K 253 [v0] U (ax (fun iH U => cU ((cB eY ++ (cB v1 ++ [])) ++ ((cB v37 ++ []) ++ [])) aG U /\
 (∀ b ∈ cB v40 ++ (cB iH ++ []), b ∈ (cB eY ++ (cB v1 ++ [])) ++ ((cB v37 ++ []) ++ [])) /\
 aw K (fI (some (.s, 5)) (some (.int .u8 0)) v40 iH true aG) (fun dY =>
 aw K (bq dY 0) (fun oM =>
 aw K (bq dY 1) (fun jf =>
 (fF .not jf).wp K U (fun ki U =>
 aq ki (
 ak R v6 U) (
 af K 99 [v0, oM] U (ax (fun v51 U =>
 (bF v0).wp K U (fun v53 U =>
 (ag (some 1) v53).wp K U (fun kj U =>
 (ao aK kj U).wp K U (fun iI U =>
 (aj .add aD true iI (.int .i64 1)).wp K U (fun l9 U =>
 (bF v0).wp K U (fun ky U =>
 (ag (some 1) ky).wp K U (fun ni U =>
 (aL aK ni l9 U).wp K U (fun _ U =>
 (aj .eql aD true v1 (.int .i64 8)).wp K U (fun rl U =>
 aq rl (
 af K 168 [v0] U (ax (fun rm U =>
 (bF v51).wp K U (fun mb U =>
 (ag (some 0) mb).wp K U (fun tL U =>
 (ag (some 2) tL).wp K U (fun EP U =>
 (aL aK EP rm U).wp K U (fun _ U =>
 (aO (some (87, 1)) (some [.a8]) 1 false [(0, v6)]).wp K U (fun Aj U =>
 af K 103 [v51, Aj] U (ax (fun v70 U =>
 lp v0 v1 v70 U) (aa R))) (aa R)) (aa R)) (aa R)) (aa R)) (aa R)) (aa R))) (
 (aj .add aD true v1 (.int .i64 1)).wp K U (fun v75 U =>
 af K 219 [v0, v75] U (ax (fun v76 U =>
 (aO (some (87, 1)) (some [.a8]) 2 false [(0, v6), (1, v76)]).wp K U (fun rq U =>
 af K 103 [v51, rq] U (ax (fun Ak U =>
 (aj .eql aD true v1 (.int .i64 5)).wp K U (fun v80 U =>
 aq v80 (
 ak R Ak U) (
 lp v0 v1 Ak U)) (aa R)) (aa R))) (aa R)) (aa R))) (aa R))) (aa R)) (aa R)) (aa R)) (aa R)) (aa R)) (aa R)) (aa R)) (aa R)) (aa R)))) (aa R))))) (aa R))))))) U) (aa R))) (aa R))) (aa R))) (aa R)
def MG : Prop :=
 cK 3 [a0, a1, a1] U fun lp v0 v1 v5 U =>
 (bz (some true) v0).wp K U (fun v9 U =>
 (aj .lss aD false v5 v9).wp K U (fun v10 U =>
 ad K (ar v10 true) (au.val v0) (fun v12 =>
 ad K (ar v10 true) (au.val v5) (fun bI =>
 ad K (ar v10 true) (eE true none none v12 bI) (fun bS =>
 ad K (ar v10 true) (au.enter 254 [bS]) (fun bH =>
 ad K (ar v10 true) (au.val bH) (fun cG =>
 ad K (ar cG false) (au.val v0) (fun cA =>
 ad K (ar cG false) (au.val v5) (fun bZ =>
 ad K (ar cG false) (eE true none none cA bZ) (fun cH =>
 ad K (ar cG false) (au.enter 224 [cH]) (fun v20 =>
 ad K (ar v10 true) (aQ cG (.bool true) v20) (fun v21 =>
 (aQ v10 v21 (.bool false)).wp K U (fun cm U =>
 aq cm (
 (aj .add aD true v5 (.int .i64 1)).wp K U (fun v24 U =>
 lp v0 v1 v24 U) (aa R)) (
 (dx true none v0 (some v1) (some v5)).wp K U (fun v28 U =>
 ak R v28 U) (aa R))) (aa R)))))))))))) (aa R)) (aa R)
def MI : Prop :=
 (aj .geq aD true a0 (.int .u8 97)).wp K U (fun v4 U =>
 ad K (ar v4 true) (au.val a0) (fun v6 =>
 ad K (ar v4 true) (aj .leq aD true v6 (.int .u8 122)) (fun v7 =>
 (aQ v4 v7 (.bool false)).wp K U (fun v8 U =>
 ak R v8 U) (aa R)))) (aa R)
def MK : Prop :=
 cK 3 [a0, a1, (.int .i64 0)] U fun lp v0 v1 v5 U =>
 (bz (some false) v0).wp K U (fun v8 U =>
 (aj .lss aD false v5 v8).wp K U (fun v9 U =>
 aq v9 (
 (aF (some (9, 1)) none v0 v5).wp K U (fun bS U =>
 (ao aK bS U).wp K U (fun bH U =>
 (aj .eql aD false bH v1).wp K U (fun cA U =>
 aq cA (
 ak R (.bool true) U) (
 (aj .add aD true v5 (.int .i64 1)).wp K U (fun v11 U =>
 lp v0 v1 v11 U) (aa R))) (aa R)) (aa R)) (aa R)) (
 ak R (.bool false) U)) (aa R)) (aa R)
def MM : Prop :=
 (aO (some (9, 1)) (some [.str []]) 30 false [(0, (.str Ap)), (1, (.str EW)), (2, (.str NH)), (3, (.str NJ)), (4, (.str pg)), (5, (.str RE)), (6, (.str uZ)), (7, (.str Bi)), (8, (.str lf)), (9, (.str nN)), (10, (.str gC)), (11, (.str EX)), (12, (.str CG)), (13, (.str lg)), (14, (.str yV)), (15, (.str nO)), (16, (.str ry)), (17, (.str RF)), (18, (.str nj)), (19, (.str qC)), (20, (.str xB)), (21, (.str CH)), (22, (.str ph)), (23, (.str Xb)), (24, (.str EZ)), (25, (.str CI)), (26, (.str jF)), (27, (.str tQ)), (28, (.str gb)), (29, (.str pj))]).wp K U (fun v1 U =>
 ak R v1 U) (aa R)
def MO : Prop :=
 (aj .geq aD true a0 (.int .u8 48)).wp K U (fun v4 U =>
 ad K (ar v4 true) (au.val a0) (fun v6 =>
 ad K (ar v4 true) (aj .leq aD true v6 (.int .u8 57)) (fun v7 =>
 (aQ v4 v7 (.bool false)).wp K U (fun v8 U =>
 ak R v8 U) (aa R)))) (aa R)
def MQ : Prop :=
 cK 3 [a0, (.int .i64 0), (.int .i64 0)] U fun lp v0 v3 v4 U =>
 (bz (some true) v0).wp K U (fun v7 U =>
 (aj .lss aD false v4 v7).wp K U (fun v8 U =>
 aq v8 (
 (eE true none none v0 v4).wp K U (fun bI U =>
 af K 224 [bI] U (ax (fun bS U =>
 (fF .not bS).wp K U (fun bH U =>
 ad K (ar bH false) (au.val v4) (fun cA =>
 ad K (ar bH false) (aj .gtr aD true cA (.int .i64 0)) (fun bZ =>
 ad K (ar bH false) (au.val bZ) (fun cH =>
 ad K (ar cH true) (au.val v0) (fun v20 =>
 ad K (ar cH true) (eE true none none v20 (.int .i64 0)) (fun v21 =>
 ad K (ar cH true) (aj .eql aD true v21 (.int .u8 48)) (fun cm =>
 ad K (ar bH false) (aQ cH cm (.bool false)) (fun du =>
 (aQ bH (.bool true) du).wp K U (fun v24 U =>
 aq v24 (
 ak R (.int .i64 4) U) (
 (aj .mul aD true (.int .i64 10) v3).wp K U (fun dE U =>
 (eE true none none v0 v4).wp K U (fun cC U =>
 (aj .sub aD true cC (.int .u8 48)).wp K U (fun v30 U =>
 (ua (some .i64) true false false v30).wp K U (fun v31 U =>
 (aj .add aD false dE v31).wp K U (fun fG U =>
 (sG fG (.int .i64 1000001)).wp K U (fun dP U =>
 (aj .add aD true v4 (.int .i64 1)).wp K U (fun v10 U =>
 lp v0 dP v10 U) (aa R)) (aa R)) (aa R)) (aa R)) (aa R)) (aa R)) (aa R))) (aa R))))))))) (aa R)) (aa R))) (aa R)) (
 (aj .gtr aD true v3 (.int .i64 1000000)).wp K U (fun er U =>
 aq er (
 ak R (.int .i64 3) U) (
 ak R (.int .i64 0) U)) (aa R))) (aa R)) (aa R)
def MS : Prop :=
 (aO (some (9, 1)) (some [.str []]) 16 false [(0, (.str da)), (1, (.str ji)), (2, (.str xy)), (3, (.str xx)), (4, (.str xr)), (5, (.str xv)), (6, (.str xq)), (7, (.str pA)), (8, (.str pB)), (9, (.str qp)), (10, (.str xz)), (11, (.str Ao)), (12, (.str xu)), (13, (.str sj)), (14, (.str xw)), (15, (.str Am))]).wp K U (fun v1 U =>
 ak R v1 U) (aa R)
def MU : Prop :=
 (bz (some true) a0).wp K U (fun v8 U =>
 (aj .sub aD false v8 a1).wp K U (fun v10 U =>
 (bz (some true) a2).wp K U (fun v12 U =>
 (aj .geq aD false v10 v12).wp K U (fun bI U =>
 ad K (ar bI true) (au.val a0) (fun bH =>
 ad K (ar bI true) (au.val a1) (fun cG =>
 ad K (ar bI true) (au.val a1) (fun cA =>
 ad K (ar bI true) (au.val a2) (fun bZ =>
 ad K (ar bI true) (bz (some true) bZ) (fun cH =>
 ad K (ar bI true) (aj .add aD false cA cH) (fun v20 =>
 ad K (ar bI true) (dx true none bH (some cG) (some v20)) (fun v21 =>
 ad K (ar bI true) (au.val a2) (fun cm =>
 ad K (ar bI true) (aj .eql aD false v21 cm) (fun du =>
 (aQ bI du (.bool false)).wp K U (fun v24 U =>
 ak R v24 U) (aa R))))))))))) (aa R)) (aa R)) (aa R)) (aa R)
def MW : Prop :=
 (bz (some false) a0).wp K U (fun v7 U =>
 cK 4 [a0, a1, v7, (.int .i64 0)] U fun lp v0 v1 nM v8 U =>
 (aj .lss aD false v8 nM).wp K U (fun v9 U =>
 aq v9 (
 (aF (some (9, 1)) none v0 v8).wp K U (fun bS U =>
 (ao aK bS U).wp K U (fun bH U =>
 (aj .eql aD false v1 bH).wp K U (fun cG U =>
 aq cG (
 ak R v8 U) (
 (aj .add aD true v8 (.int .i64 1)).wp K U (fun bZ U =>
 lp v0 v1 nM bZ U) (aa R))) (aa R)) (aa R)) (aa R)) (
 ak R (.int .i64 (-1)) U)) (aa R)) (aa R)
def MY : Prop :=
 (bF a0).wp K U (fun v10 U =>
 (ag (some 2) v10).wp K U (fun v11 U =>
 (ao aK v11 U).wp K U (fun v12 U =>
 (wF (some (.i, 185)) v12).wp K U (fun bI U =>
 cK 2 [a1, bI] U fun lp v1 xp U =>
 (qk xp U).wp K U (fun bS U =>
 (bq bS 0).wp K U (fun bH U =>
 aq bH (
 (mS xp U).wp K U (fun cG U =>
 (bq cG 0).wp K U (fun cA U =>
 (bq cG 1).wp K U (fun bZ U =>
 (wF (some (.s, 5)) bZ).wp K U (fun v20 U =>
 cK 4 [v1, cA, xp, v20] U fun o4 eN v5 Ag Iv U =>
 (qk Iv U).wp K U (fun v21 U =>
 (bq v21 0).wp K U (fun cm U =>
 aq cm (
 (mS Iv U).wp K U (fun du U =>
 (bq du 1).wp K U (fun v24 U =>
 (aj .eql aD false v24 eN).wp K U (fun di U =>
 aq di (
 ak R v5 U) (
 o4 eN v5 Ag Iv U)) (aa R)) (aa R)) (aa R)) (
 lp eN Ag U)) (aa R)) (aa R)) (aa R)) (aa R)) (aa R)) (aa R)) (
 (aj .eql aD true v1 (.int .u8 9)).wp K U (fun v31 U =>
 aq v31 (
 ak R (.int .i64 0) U) (
 (aj .eql aD true v1 (.int .u8 19)).wp K U (fun eI U =>
 aq eI (
 ak R (.int .i64 4) U) (
 (aj .geq aD true v1 (.int .u8 10)).wp K U (fun v37 U =>
 ad K (ar v37 true) (au.val v1) (fun je =>
 ad K (ar v37 true) (aj .leq aD true je (.int .u8 16)) (fun v40 =>
 (aQ v37 v40 (.bool false)).wp K U (fun gQ U =>
 aq gQ (
 ak R (.int .i64 1) U) (
 ak R (.int .i64 9) U)) (aa R)))) (aa R))) (aa R))) (aa R))) (aa R)) (aa R)) (aa R)) (aa R)) (aa R)) (aa R)
def M0 : Prop :=
 (ao aK a1 U).wp K U (fun v5 U =>
 (aj .eql aD false a0 v5).wp K U (fun v6 U =>
 ak R v6 U) (aa R)) (aa R)
def M5 : Prop :=
 (bz (some false) a0).wp K U (fun v7 U =>
 cK 4 [a0, a1, v7, (.int .i64 0)] U fun lp v0 v1 nM v8 U =>
 (aj .lss aD false v8 nM).wp K U (fun v9 U =>
 aq v9 (
 (aF (some (178, 1)) none v0 v8).wp K U (fun bS U =>
 (ao aK bS U).wp K U (fun bH U =>
 (aj .eql aD false v1 bH).wp K U (fun cG U =>
 aq cG (
 ak R v8 U) (
 (aj .add aD true v8 (.int .i64 1)).wp K U (fun bZ U =>
 lp v0 v1 nM bZ U) (aa R))) (aa R)) (aa R)) (aa R)) (
 ak R (.int .i64 (-1)) U)) (aa R)) (aa R)
def M7 : Prop :=
 (au.CA).wp K U (fun v10 U =>
 (iw (some (.s, 5)) v10 (.str gb) (.int .u8 27) U).wp K U (fun _ U =>
 (iw (some (.s, 5)) v10 (.str gC) (.int .u8 28) U).wp K U (fun _ U =>
 (iw (some (.s, 5)) v10 (.str jF) (.int .u8 29) U).wp K U (fun _ U =>
 (iw (some (.s, 5)) v10 (.str lg) (.int .u8 30) U).wp K U (fun _ U =>
 (iw (some (.s, 5)) v10 (.str nj) (.int .u8 31) U).wp K U (fun _ U =>
 (iw (some (.s, 5)) v10 (.str pA) (.int .u8 32) U).wp K U (fun _ U =>
 af K 253 [a0] U (ax (fun bH U =>
 (fI (some (.s, 5)) (some (.int .u8 0)) v10 bH true U).wp K U (fun cG U =>
 (bq cG 0).wp K U (fun cA U =>
 (bq cG 1).wp K U (fun bZ U =>
 aq bZ (
 af K 99 [a0, cA] U (ax (fun cm U =>
 (bF a0).wp K U (fun v24 U =>
 (ag (some 1) v24).wp K U (fun dO U =>
 (ao aK dO U).wp K U (fun dE U =>
 (aj .add aD true dE (.int .i64 1)).wp K U (fun di U =>
 (bF a0).wp K U (fun v28 U =>
 (ag (some 1) v28).wp K U (fun cC U =>
 (aL aK cC di U).wp K U (fun _ U =>
 gG 1 (fun v6 U =>
 ak R v6 U) fun j =>
 (aj .eql aD true cA (.int .u8 31)).wp K U (fun v31 U =>
 ad K (ar v31 false) (au.val cA) (fun dP =>
 ad K (ar v31 false) (aj .eql aD true dP (.int .u8 32)) (fun eI =>
 (aQ v31 (.bool true) eI).wp K U (fun er U =>
 aq er (
 af K 101 [a0] U (ax (fun eY U =>
 (bF cm).wp K U (fun je U =>
 (ag (some 0) je).wp K U (fun v40 U =>
 (ag (some 1) v40).wp K U (fun gQ U =>
 (aL aK gQ eY U).wp K U (fun _ U =>
 j cm U) (aa R)) (aa R)) (aa R)) (aa R)) (aa R))) (
 j cm U)) (aa R)))) (aa R)) (aa R)) (aa R)) (aa R)) (aa R)) (aa R)) (aa R)) (aa R)) (aa R))) (
 af K 100 [a0, (.str pB)] U (ax (fun oM U =>
 aq oM (
 af K 109 [a0] U (ax (fun v46 U =>
 af K 102 [a0, (.str qp)] U (ax (fun jg U =>
 ak R v46 U) (aa R))) (aa R))) (
 af K 167 [a0, (.int .i64 0)] U (ax (fun v51 U =>
 (rD (some (0, false, 1)) v51).wp K U (fun kx U =>
 (aj .eql aD true kx (.int .u8 2)).wp K U (fun v53 U =>
 aq v53 (
 af K 99 [a0, (.int .u8 26)] U (ax (fun iI U =>
 af K 168 [a0] U (ax (fun ni U =>
 (bF iI).wp K U (fun v59 U =>
 (ag (some 0) v59).wp K U (fun rl U =>
 (ag (some 2) rl).wp K U (fun p8 U =>
 (aL aK p8 ni U).wp K U (fun _ U =>
 ak R iI U) (aa R)) (aa R)) (aa R)) (aa R)) (aa R))) (aa R))) (
 af K 99 [a0, (.int .u8 33)] U (ax (fun mb U =>
 af K 101 [a0] U (ax (fun oV U =>
 (bF mb).wp K U (fun oN U =>
 (ag (some 0) oN).wp K U (fun Aj U =>
 (ag (some 1) Aj).wp K U (fun v70 U =>
 (aL aK v70 oV U).wp K U (fun _ U =>
 gG 1 (fun v9 U =>
 ak R v9 U) fun BS =>
 af K 100 [a0, (.str pB)] U (ax (fun v72 U =>
 aq v72 (
 (bF mb).wp K U (fun rp U =>
 (ag (some 0) rp).wp K U (fun v75 U =>
 (ag (some 0) v75).wp K U (fun v76 U =>
 (aL aK v76 (.int .u8 34) U).wp K U (fun _ U =>
 af K 106 [a0, mb, (.func (.func 269) [a0] [])] U (ax (fun Nx U =>
 af K 102 [a0, (.str qp)] U (ax (fun ET U =>
 BS mb U) (aa R))) (aa R))) (aa R)) (aa R)) (aa R)) (aa R)) (
 BS mb U)) (aa R))) (aa R)) (aa R)) (aa R)) (aa R)) (aa R))) (aa R)))) (aa R)) (aa R)) (aa R)))) (aa R)))) (aa R)) (aa R)) (aa R)) (aa R))) (aa R)) (aa R)) (aa R)) (aa R)) (aa R)) (aa R)) (aa R)
def M9 : Prop :=
 af K 167 [a0, (.int .i64 0)] U (ax (fun v5 U =>
 (au.cq [.int .u8 0, .str [], .int .i64 0]).wp K U (fun v3 U =>
 (aL (some (true, 3)) v3 v5 U).wp K U (fun _ U =>
 (ag (some 0) v3).wp K U (fun v6 U =>
 (ao aK v6 U).wp K U (fun v7 U =>
 (aj .eql aD true v7 (.int .u8 3)).wp K U (fun v8 U =>
 ad K (ar v8 false) (ag (some 0) v3) (fun v10 =>
 ad K (ar v8 false) (ao aK v10 U) (fun v11 =>
 ad K (ar v8 false) (aj .eql aD true v11 (.int .u8 4)) (fun v12 =>
 (aQ v8 (.bool true) v12).wp K U (fun bI U =>
 aq bI (
 (ag (some 1) v3).wp K U (fun bS U =>
 (ao aK bS U).wp K U (fun bH U =>
 ak R bH U) (aa R)) (aa R)) (
 ak R (.str w_) U)) (aa R))))) (aa R)) (aa R)) (aa R)) (aa R)) (aa R)) (aa R))
def Nb : Prop :=
 af K 221 [a0] U (ax (fun v4 U =>
 ad K (ar v4 false) (au.val a0) (fun v6 =>
 ad K (ar v4 false) (aj .geq aD true v6 (.int .u8 65)) (fun v7 =>
 ad K (ar v4 false) (au.val v7) (fun v8 =>
 ad K (ar v8 true) (au.val a0) (fun v9 =>
 ad K (ar v8 true) (aj .leq aD true v9 (.int .u8 90)) (fun v10 =>
 ad K (ar v4 false) (aQ v8 v10 (.bool false)) (fun v11 =>
 (aQ v4 (.bool true) v11).wp K U (fun v12 U =>
 ak R v12 U) (aa R)))))))) (aa R))
def Nf : Prop :=
 (aO (some (9, 1)) (some [.str []]) 1 false [(0, (.str EX))]).wp K U (fun v7 U =>
 af K 105 [a0, v7] U (ax (fun v8 U =>
 aq v8 (
 af K 99 [a0, (.int .u8 35)] U (ax (fun v10 U =>
 af K 102 [a0, (.str EX)] U (ax (fun v12 U =>
 af K 102 [a0, (.str pB)] U (ax (fun bS U =>
 af K 106 [a0, v10, (.func (.func 278) [a0] [])] U (ax (fun cH U =>
 af K 102 [a0, (.str qp)] U (ax (fun v21 U =>
 af K 169 [a0] U (ax (fun v24 U =>
 (aO (some (87, 1)) (some [.a8]) 1 false [(0, v24)]).wp K U (fun dO U =>
 af K 103 [v10, dO] U (ax (fun dE U =>
 ak R dE U) (aa R))) (aa R)) (aa R))) (aa R))) (aa R))) (aa R))) (aa R))) (aa R))) (
 (aO (some (9, 1)) (some [.str []]) 1 false [(0, (.str xz))]).wp K U (fun cC U =>
 af K 105 [a0, cC] U (ax (fun v30 U =>
 aq v30 (
 af K 99 [a0, (.int .u8 36)] U (ax (fun fG U =>
 af K 102 [a0, (.str xz)] U (ax (fun eI U =>
 af K 102 [a0, (.str CG)] U (ax (fun fq U =>
 af K 169 [a0] U (ax (fun je U =>
 (aO (some (87, 1)) (some [.a8]) 1 false [(0, je)]).wp K U (fun v40 U =>
 af K 103 [fG, v40] U (ax (fun gQ U =>
 af K 102 [a0, (.str sj)] U (ax (fun dY U =>
 af K 102 [a0, (.str CI)] U (ax (fun jf U =>
 af K 278 [a0] U (ax (fun jg U =>
 (aO (some (87, 1)) (some [.a8]) 1 false [(0, jg)]).wp K U (fun v49 U =>
 af K 103 [fG, v49] U (ax (fun ku U =>
 af K 102 [a0, (.str Am)] U (ax (fun kx U =>
 af K 169 [a0] U (ax (fun iI U =>
 (aO (some (87, 1)) (some [.a8]) 1 false [(0, iI)]).wp K U (fun l9 U =>
 af K 103 [fG, l9] U (ax (fun ky U =>
 af K 102 [a0, (.str Ao)] U (ax (fun v59 U =>
 ak R fG U) (aa R))) (aa R))) (aa R)) (aa R))) (aa R))) (aa R))) (aa R)) (aa R))) (aa R))) (aa R))) (aa R))) (aa R)) (aa R))) (aa R))) (aa R))) (aa R))) (
 af K 109 [a0] U (ax (fun tK U =>
 ak R tK U) (aa R)))) (aa R))) (aa R))) (aa R))) (aa R)
def Nh : Prop :=
 af K 99 [a0, (.int .u8 37)] U (ax (fun v5 U =>
 af K 101 [a0] U (ax (fun v8 U =>
 (bF v5).wp K U (fun v9 U =>
 (ag (some 0) v9).wp K U (fun v10 U =>
 (ag (some 1) v10).wp K U (fun v11 U =>
 (aL aK v11 v8 U).wp K U (fun _ U =>
 ak R v5 U) (aa R)) (aa R)) (aa R)) (aa R)) (aa R))) (aa R))
end
section
variable {a0 a1 a2 a3 a4 a5 a6 : AV} {R : cD -> St -> Prop} {U : St}
theorem LL (h : LK a0 a1 a2 a3 R U) : af K 155 [a0, a1, a2, a3] U R := bu Tryz.f155 TA h
theorem LN (h : LM a0 a1 R U) : af K 157 [a0, a1] U R := bu Tryz.f157 TB h
theorem LP (h : LO a0 R U) : af K 158 [a0] U R := bu Tryz.f158 TC h
theorem LR (h : LQ a0 R U) : af K 159 [a0] U R := bu Tryz.f159 TD h
theorem LU (h : LS a0 R U) : af K 160 [a0] U R := bu Tryz.f160 TE h
theorem LW (h : LV a0 R U) : af K 161 [a0] U R := bu Tryz.f161 TF h
theorem LY (h : LX a0 R U) : af K 162 [a0] U R := bu Tryz.f162 TG h
theorem L0 (h : LZ a0 R U) : af K 163 [a0] U R := bu Tryz.f163 TH h
theorem L6 (h : L5 a0 R U) : af K 164 [a0] U R := bu Tryz.f164 TJ h
theorem L7 (h : Wv a0 a1 R U) : af K 165 [a0, a1] U R := bu Tryz.f165 TK h
theorem L9 (h : Ww a0 R U) : af K 166 [a0] U R := bu Tryz.f166 TL h
theorem Mb (h : Ma a0 a1 R U) : af K 167 [a0, a1] U R := bu Tryz.f167 TM h
theorem Mc (h : Wx a0 R U) : af K 168 [a0] U R := bu Tryz.f168 TN h
theorem Me (h : Md a0 R U) : af K 169 [a0] U R := bu Tryz.f169 TO h
theorem Mg (h : Mf a0 a1 R U) : af K 172 [a0, a1] U R := bu Tryz.f172 TP h
theorem Mh (h : Wy a0 a1 R U) : af K 178 [a0, a1] U R := bu Tryz.f178 TQ h
theorem Mj (h : Mi a0 R U) : af K 179 [a0] U R := bu Tryz.f179 TR h
theorem Mm (h : Ml a0 R U) : af K 181 [a0] U R := bu Tryz.f181 TS h
theorem Mo (h : Mn a0 R U) : af K 185 [a0] U R := bu Tryz.f185 TT h
theorem Mq (h : Mp a0 R U) : af K 191 [a0] U R := bu Tryz.f191 TU h
theorem Ms (h : Mr a0 R U) : af K 206 [a0] U R := bu Tryz.f206 TV h
theorem Mu (h : Mt a0 R U) : af K 207 [a0] U R := bu Tryz.f207 TW h
theorem Mw (h : Mv a0 R U) : af K 208 [a0] U R := bu Tryz.f208 TX h
theorem My (h : Mx a0 a1 R U) : af K 209 [a0, a1] U R := bu Tryz.f209 TY h
theorem Cd (h : Ew a0 a1 R U) : af K 210 [a0, a1] U R := bu Tryz.f210 TZ h
theorem MA (h : Mz a0 R U) : af K 211 [a0] U R := bu Tryz.f211 T0 h
theorem Ce (h : Wz a0 a1 R U) : af K 212 [a0, a1] U R := bu Tryz.f212 T1 h
theorem MB (h : WA a0 a1 R U) : af K 215 [a0, a1] U R := bu Tryz.f215 T4 h
theorem MD (h : MC a0 R U) : af K 216 [a0] U R := bu Tryz.f216 T9 h
theorem MF (h : ME a0 a1 R U) : af K 219 [a0, a1] U R := bu Tryz.f219 Ua h
theorem MH (h : MG a0 a1 R U) : af K 220 [a0, a1] U R := bu Tryz.f220 Ub h
theorem MJ (h : MI a0 R U) : af K 221 [a0] U R := bu Tryz.f221 Uc h
theorem ML (h : MK a0 a1 R U) : af K 222 [a0, a1] U R := bu Tryz.f222 Ud h
theorem MN (h : MM R U) : af K 223 [] U R := bu Tryz.f223 Ue h
theorem MP (h : MO a0 R U) : af K 224 [a0] U R := bu Tryz.f224 Uf h
theorem MR (h : MQ a0 R U) : af K 225 [a0] U R := bu Tryz.f225 Ug h
theorem MT (h : MS R U) : af K 226 [] U R := bu Tryz.f226 Uh h
theorem MV (h : MU a0 a1 a2 R U) : af K 227 [a0, a1, a2] U R := bu Tryz.f227 Ui h
theorem MX (h : MW a0 a1 R U) : af K 230 [a0, a1] U R := bu Tryz.f230 Uj h
theorem MZ (h : MY a0 a1 R U) : af K 236 [a0, a1] U R := bu Tryz.f236 Uk h
theorem M4 (h : M0 a0 a1 R U) : af K 242 [a0, a1] U R := bu Tryz.f242 Ul h
theorem M6 (h : M5 a0 a1 R U) : af K 246 [a0, a1] U R := bu Tryz.f246 Um h
theorem M8 (h : M7 a0 R U) : af K 252 [a0] U R := bu Tryz.f252 Un h
theorem Na (h : M9 a0 R U) : af K 253 [a0] U R := bu Tryz.f253 Uo h
theorem Nc (h : Nb a0 R U) : af K 254 [a0] U R := bu Tryz.f254 Up h
theorem Ng (h : Nf a0 R U) : af K 269 [a0] U R := bu Tryz.f269 Uq h
theorem Ni (h : Nh a0 R U) : af K 278 [a0] U R := bu Tryz.f278 Ur h
end
end Go.Rip
