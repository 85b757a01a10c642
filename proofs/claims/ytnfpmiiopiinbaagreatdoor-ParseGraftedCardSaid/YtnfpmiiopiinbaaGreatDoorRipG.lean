/- Lemmas for the proof: no conditions. -/
import Derived.Test.YtnfpmiiopiinbaaGreatDoorRipZz
import Derived.Test.YtnfpmiiopiinbaaGreatDoorRipD
set_option linter.unusedVariables false
set_option linter.unusedSimpArgs false
set_option linter.loopingSimpArgs false
set_option maxRecDepth 100000
namespace Go.Rip
open Go.Proofs
def QO : An := ak (.bk (.lp [0, 2, 3, 5] (aQ (ak (.cd .z .z)) (aQ (.bk (ak (.cd .z .z))) eI))))
def QP : An := aQ (.rg [4] [] none) (.sq (some [0, 1]) (aQ (.rg [5, 6] [] none) (.cd (.rg [7] [] none) .z)) (.sq (some [0]) (aQ (.rg [1, 8, 9, 10, 11, 12, 13, 14] [] none) (aQ (.rg [15, 16] [] none) (.cd (.rg [0, 17, 18, 19, 20, 21, 22, 23, 24, 25] [] none) .z))) (aQ (.rg [4, 26] [] none) .z)))
def QR : An := ak (ak (aQ (ak (.bk (.lp [0, 3, 8, 9, 10] (ak (aQ (.cd .z .z) (aQ (.bk (ak (ak eI))) eI)))))) (ak .z)))
def QS : An := ak (ak (aQ (ak (.bk (.lp [0, 3, 8, 9, 10] (ak (aQ (.cd .z .z) (aQ (.bk (ak (ak eI))) eI)))))) (ak .z)))
def QT : An := ak (ak (ak (ak (ak (ak (ak (ak (ak (ak .z)))))))))
def QU : An := ak (ak (ak (ak (ak (ak (ak (ak .z)))))))
def QV : An := ak (ak (ak (ak (ak (ak .z)))))
def QW : An := ak (ak (ak (ak (ak (ak (ak (ak .z)))))))
def QX : An := ak (aQ (aQ (.rg [] [] (some ⟨[(true, 0), (true, 1), (true, 2), (true, 3), (true, 4), (true, 5), (true, 6), (true, 7), (true, 8), (true, 9)], [⟨8, 1, 0⟩, ⟨16, 8, 1⟩, ⟨32, 16, 2⟩, ⟨64, 32, 4⟩, ⟨128, 1, 0⟩, ⟨256, 128, 16⟩, ⟨512, 256, 32⟩, ⟨1024, 512, 64⟩, ⟨2048, 1024, 128⟩, ⟨4096, 2112, 264⟩]⟩)) (.cd (aQ (.rg [] [] (some ⟨[(true, 0), (true, 1), (true, 2), (true, 3), (true, 4), (true, 5), (true, 6), (true, 7), (true, 8), (true, 9), (true, 10), (true, 11)], [⟨8192, 1, 0⟩, ⟨16384, 8192, 1⟩, ⟨32768, 16384, 2⟩, ⟨65536, 32768, 4⟩, ⟨131072, 1, 0⟩, ⟨262144, 131072, 16⟩, ⟨524288, 262144, 32⟩, ⟨1048576, 524288, 64⟩, ⟨2097152, 1114112, 136⟩, ⟨4194304, 2097152, 256⟩, ⟨8388608, 4194304, 512⟩, ⟨4, 8388608, 2047⟩]⟩)) .z) .z)) (ak .z))
def QY : An := ak (ak (.sq (some [0, 5]) (ak (.cd eI .z)) (ak (ak .z))))
def QZ : An := eI
def Q0 : An := ak (aQ (aQ (.rg [] [] (some ⟨[(true, 0), (true, 1), (true, 2), (true, 3), (true, 4), (true, 5), (true, 6), (true, 7), (true, 8), (true, 9), (true, 10), (true, 11)], [⟨32, 1, 0⟩, ⟨64, 32, 1⟩, ⟨128, 64, 2⟩, ⟨256, 128, 4⟩, ⟨512, 2, 0⟩, ⟨1024, 768, 24⟩, ⟨2048, 1, 0⟩, ⟨4096, 2048, 64⟩, ⟨8192, 4096, 128⟩, ⟨16384, 8192, 256⟩, ⟨32768, 16384, 512⟩, ⟨65536, 33792, 1056⟩]⟩)) (.cd (aQ (.rg [] [] (some ⟨[(true, 0), (true, 1), (true, 2), (true, 3), (true, 4), (true, 5), (true, 6), (true, 7), (true, 8), (true, 9), (true, 10), (true, 11), (false, 12)], [⟨131072, 1, 0⟩, ⟨262144, 131072, 1⟩, ⟨524288, 262144, 2⟩, ⟨1048576, 524288, 4⟩, ⟨2097152, 1, 0⟩, ⟨4194304, 2097152, 16⟩, ⟨8388608, 4194304, 32⟩, ⟨16777216, 8388608, 64⟩, ⟨33554432, 2, 0⟩, ⟨67108864, 50331648, 384⟩, ⟨134217728, 68157440, 520⟩, ⟨268435456, 134217728, 1024⟩, ⟨0, 268435472, 4095⟩]⟩)) .z) .z)) (ak .z))
def Q1 : An := ak (ak (.sq (some [3]) (ak (.cd eI .z)) (ak .z)))
def Q2 : An := ak (ak (aQ (aQ (.rg [] [] (some ⟨[(true, 0), (true, 1), (true, 2), (true, 3), (true, 4), (true, 5), (true, 6), (true, 7), (true, 8), (true, 9), (true, 10), (true, 11)], [⟨1024, 1, 0⟩, ⟨2048, 1024, 1⟩, ⟨4096, 2048, 2⟩, ⟨8192, 4096, 4⟩, ⟨16384, 8, 0⟩, ⟨32768, 16384, 16⟩, ⟨65536, 40960, 40⟩, ⟨512, 65536, 64⟩, ⟨131072, 512, 128⟩, ⟨262144, 512, 128⟩, ⟨16, 131072, 511⟩, ⟨32, 262144, 2047⟩]⟩)) (ak (.cd (ak .z) .z))) (aQ (.sq (some [0, 36]) (.rg [] [121] none) (.cd (ak (ak (ak (ak .z)))) .z)) (ak .z))))
def Q3 : An := ak (ak .z)
def Q4 : An := ak (ak .z)
def Q5 : An := ak (ak .z)
def Q6 : An := ak (ak .z)
def Q7 : An := ak (ak .z)
def Q8 : An := ak (ak .z)
def Q9 : An := ak (ak (ak .z))
def Ra : An := ak (aQ (ak (.bk (.lp [0, 1, 11, 12, 13] (ak (aQ (.cd .z .z) (aQ (.bk (ak (ak (aQ (ak (.bk (.lp [0, 1, 6, 7, 11, 12, 13, 21, 22, 23] (ak (aQ (.cd .z .z) (aQ (.bk (ak eI)) eI)))))) (ak (aQ (.bk (.lp [0, 1, 6, 7, 10, 11, 12, 13] (aQ (.sq (some [0, 1, 6, 7, 10, 11, 12, 13, 52]) (.rg [] [] (some ⟨[(true, 0), (true, 1), (true, 2), (true, 3), (true, 4), (true, 5), (true, 6), (true, 7), (true, 8), (true, 9), (true, 10), (true, 11), (true, 12), (true, 13), (true, 14), (true, 15), (true, 16), (true, 17), (true, 18), (false, 19), (true, 20)], [⟨4294967296, 1024, 0⟩, ⟨8589934592, 1, 0⟩, ⟨17179869184, 8589934592, 2⟩, ⟨34359738368, 128, 0⟩, ⟨68719476736, 51539607552, 12⟩, ⟨137438953472, 73014444032, 17⟩, ⟨274877906944, 137438953472, 32⟩, ⟨549755813888, 274877907968, 64⟩, ⟨1099511627776, 274877907008, 64⟩, ⟨2199023255552, 1374389534720, 320⟩, ⟨4398046511104, 3023656976384, 704⟩, ⟨8796093022208, 4672924418048, 1088⟩, ⟨17592186044416, 8796093022208, 2112⟩, ⟨35184372088832, 17592186044480, 4096⟩, ⟨70368744177664, 52776558133248, 12288⟩, ⟨140737488355328, 17592186044417, 4096⟩, ⟨281474976710656, 17592186045440, 4096⟩, ⟨562949953421312, 439804651110400, 102400⟩, ⟨1125899906842624, 580542139465728, 135168⟩, ⟨2251799813685248, 1213860837064704, 282624⟩, ⟨4503599627370496, 2269391999729664, 528384⟩]⟩)) (.cd .z .z)) (.bk eI)))) (aQ (ak (.cd (ak .z) .z)) eI))))))) eI)))))) (ak .z))
def Rb : An := ak (aQ (ak (.bk (.lp [0, 1, 7, 8] (ak (aQ (.cd .z .z) (aQ (.bk (ak (ak (.cd (ak .z) .z)))) eI)))))) (ak .z))
def Rc : An := ak (aQ (ak (ak (.cd (aQ (.rg [] [] (some ⟨[(true, 0), (true, 1), (true, 2), (true, 3), (true, 4), (true, 5), (true, 6), (true, 7), (true, 8), (true, 9), (true, 10), (true, 11)], [⟨8192, 1, 0⟩, ⟨16384, 128, 0⟩, ⟨32768, 24576, 3⟩, ⟨65536, 1, 0⟩, ⟨131072, 128, 0⟩, ⟨262144, 2, 0⟩, ⟨524288, 262144, 32⟩, ⟨1048576, 655360, 80⟩, ⟨2097152, 1114112, 136⟩, ⟨16, 32768, 7⟩, ⟨32, 2097152, 1023⟩, ⟨64, 0, 2047⟩]⟩)) .z) .z))) (ak .z))
def Rd : An := ak (ak .z)
def Re : An := ak (aQ (.bk (ak (.cd (ak .z) (ak (.cd (ak .z) (ak (.cd (ak .z) (ak (.cd (ak .z) (ak (.cd (ak .z) .z))))))))))) (ak .z))
def Rf : An := ak (aQ (ak (.bk (ak (.cd (ak .z) (ak (.cd (aQ (ak (ak (.cd (ak .z) .z))) (ak .z)) .z)))))) (ak (.bk (.lp [0, 1, 6] (.bk (aQ (.rg [] [] (some ⟨[(true, 0), (true, 1), (true, 2), (true, 3), (true, 4), (true, 5), (true, 6), (false, 7), (true, 8), (true, 9), (true, 10), (true, 11), (true, 12), (true, 13)], [⟨34359738368, 1, 0⟩, ⟨68719476736, 34359738368, 1⟩, ⟨137438953472, 68719476736, 2⟩, ⟨274877906944, 137438953472, 4⟩, ⟨549755813888, 2, 0⟩, ⟨1099511627776, 824633720832, 24⟩, ⟨2199023255552, 1, 0⟩, ⟨4398046511104, 2199023255552, 64⟩, ⟨8796093022208, 5497558138880, 160⟩, ⟨17179869184, 8796093022208, 256⟩, ⟨17592186044416, 17179869184, 512⟩, ⟨35184372088832, 17179869184, 512⟩, ⟨128, 17592186044416, 2047⟩, ⟨256, 35184372088832, 8191⟩]⟩)) (aQ (ak (.cd (ak .z) .z)) (ak (ak (aQ (ak (.cd (ak (ak .z)) .z)) (ak (ak (.cd (ak .z) .z)))))))))))))
def Rh : An := ak (aQ (ak (.bk (.lp [0, 1, 7, 8] (ak (aQ (.cd .z .z) (aQ (.bk (ak (ak (.cd (ak .z) .z)))) eI)))))) (ak .z))
def Ri : An := ak (aQ (ak (.bk (.lp [1, 13] (ak (aQ (.cd .z .z) (.bk (ak (ak (.bk (.lp [1, 5, 13, 20] (ak (aQ (.cd .z .z) (.bk (ak (ak (.cd (ak .z) .z)))))))))))))))) (aQ (.bk (ak (.cd (ak .z) (ak (.cd (ak .z) (ak (.cd (ak .z) .z))))))) (ak .z)))
def Rj : An := ak (ak .z)
def Rk : An := ak (aQ (ak (.bk (.lp [0, 1, 7, 8] (ak (aQ (.cd .z .z) (aQ (.bk (ak (ak (.cd (ak .z) .z)))) eI)))))) (ak .z))
def Rl : An := ak (ak (aQ (ak (ak (.cd (ak (ak (.sq (some [6]) (ak (.cd eI .z)) (ak .z)))) .z))) (aQ (ak (.cd (ak (ak (ak .z))) .z)) (aQ (ak (.cd (ak (ak (ak .z))) .z)) (ak (ak (.sq (some [9]) (ak (.cd (ak (ak eI)) .z)) (ak .z))))))))
def Rm : An := ak (aQ (ak (ak (.cd (ak .z) .z))) (ak .z))
def Rp : An := ak (aQ (.bk (ak (.cd (ak (ak (ak (ak (ak (ak .z)))))) (ak (.cd (ak (ak (ak (ak (ak (ak (ak (ak (ak (ak (ak .z))))))))))) .z))))) (ak .z))
def Rq : An := ak (ak (ak (ak .z)))
def UF : An := ak (aQ (.sq (some [1, 2, 3, 28]) eI (.cd (ak .z) .z)) (aQ (.rg [] [] (some ⟨[(true, 0), (true, 1), (true, 2), (true, 3), (true, 4), (true, 5), (true, 6), (true, 7), (true, 8), (true, 9), (true, 10), (true, 11), (true, 12), (true, 13)], [⟨1073741824, 2, 0⟩, ⟨2147483648, 1073741824, 1⟩, ⟨4294967296, 8, 0⟩, ⟨8589934592, 4294967296, 4⟩, ⟨17179869184, 8589934592, 8⟩, ⟨34359738368, 19327352832, 18⟩, ⟨68719476736, 4, 0⟩, ⟨137438953472, 68719476736, 64⟩, ⟨274877906944, 8, 0⟩, ⟨549755813888, 274877906944, 256⟩, ⟨1099511627776, 549755813888, 512⟩, ⟨2199023255552, 1236950581248, 1152⟩, ⟨128, 34359738368, 63⟩, ⟨256, 2199023255552, 8191⟩]⟩)) (ak (ak (aQ (aQ (.rg [] [22] none) (.cd (ak .z) .z)) (ak (aQ (ak (.cd (ak .z) .z)) (ak (aQ (ak (.cd (aQ (.rg [] [17] none) .z) .z)) (ak (aQ (aQ (.rg [] [47] none) (.cd (ak .z) .z)) (aQ (ak (.bk (.lp [3, 7, 9, 13, 14, 17] (aQ (ak (.cd .z .z)) (aQ (.bk (aQ (.r2 [] [(true, 0), (true, 1), (true, 2), (true, 3), (true, 4), (true, 5), (true, 6), (true, 7), (true, 8), (true, 9)] 10 11 [(false, 12), (false, 13)]) (.sq (some [3, 7, 9, 13, 14, 17, 18, 19]) (ak (.cd eI .z)) (ak (.cd (ak .z) .z))))) eI))))) (aQ (.rg [] [] (some ⟨[(true, 0), (true, 1), (true, 2), (true, 3), (true, 4), (true, 5), (true, 6), (true, 7), (true, 8), (true, 9), (true, 10), (true, 11), (true, 12), (true, 13), (true, 14), (true, 15), (true, 16), (true, 17), (true, 18)], [⟨45671926166590716193865151022383844364247891968, 8, 0⟩, ⟨91343852333181432387730302044767688728495783936, 45671926166590716193865151022383844364247891968, 1⟩, ⟨182687704666362864775460604089535377456991567872, 128, 0⟩, ⟨365375409332725729550921208179070754913983135744, 512, 0⟩, ⟨730750818665451459101842416358141509827966271488, 365375409332725729550921208179070754913983135744, 8⟩, ⟨1461501637330902918203684832716283019655932542976, 913438523331814323877303020447676887284957839360, 20⟩, ⟨2923003274661805836407369665432566039311865085952, 1552845489664084350591415134761050708384428326912, 34⟩, ⟨5846006549323611672814739330865132078623730171904, 16384, 0⟩, ⟨11692013098647223345629478661730264157247460343808, 5846006549323611672814739330865132078623730171904, 128⟩, ⟨23384026197294446691258957323460528314494920687616, 128, 0⟩, ⟨46768052394588893382517914646921056628989841375232, 8192, 0⟩, ⟨93536104789177786765035829293842113257979682750464, 46768052394588893382517914646921056628989841375232, 1024⟩, ⟨187072209578355573530071658587684226515959365500928, 116920130986472233456294786617302641572474603438080, 2560⟩, ⟨374144419156711147060143317175368453031918731001856, 198764222677002796875701137249414490673206825844736, 4352⟩, ⟨748288838313422294120286634350736906063837462003712, 377067422431372952896550686840801019071230596087808, 8256⟩, ⟨1496577676626844588240573268701473812127674924007424, 748288838313422294120286634350736906063837462003712, 16384⟩, ⟨2993155353253689176481146537402947624255349848014848, 1496577676626844588240573268701473812127674924007424, 32768⟩, ⟨5986310706507378352962293074805895248510699696029696, 4489733029880533764721719806104421436383024772022272, 98304⟩, ⟨64, 5986310706507378352962293074805895248510699696029696, 262143⟩]⟩)) .z)))))))))))))
section
variable (a0 a1 a2 a3 a4 a5 a6 : AV) (R : cu -> St -> Prop) (U : St)
def JK : Prop :=
 (aq aG a1 U).wp K U (fun v6 U =>
 (av .add aL true v6 (.int .i64 1)).wp K U (fun v7 U =>
 dQ 4 [a0, a2, a3, v7] U fun lp v0 v2 v3 v5 U =>
 (aq aG v2 U).wp K U (fun v9 U =>
 (av .lss aL false v5 v9).wp K U (fun v10 U =>
 aj K (aI v10 true) (af (some 0) v3) (fun v12 =>
 aj K (aI v10 true) (af (some 0) v12) (fun cb =>
 aj K (aI v10 true) (aq aG cb U) (fun cL =>
 aj K (aI v10 true) (aA.val v5) (fun c6 =>
 aj K (aI v10 true) (aP (some (43, 6)) none cL c6) (fun du =>
 aj K (aI v10 true) (af (some 5) du) (fun df =>
 aj K (aI v10 true) (aq aG df U) (fun ck =>
 aj K (aI v10 true) (av .gtr aL true ck (.int .i64 0)) (fun di =>
 (bF v10 di (.bool false)).wp K U (fun v20 U =>
 az v20 (
 (fo K.P v0 [v5]).wp K U (fun iQ U =>
 (gM .not iQ).wp K U (fun fj U =>
 az fj (
 al R (.aN []) U) (
 (af (some 0) v3).wp K U (fun de U =>
 (af (some 0) de).wp K U (fun eu U =>
 (aq aG eu U).wp K U (fun v24 U =>
 (aP (some (43, 6)) none v24 v5).wp K U (fun eY U =>
 (af (some 5) eY).wp K U (fun dB U =>
 (aq aG dB U).wp K U (fun v28 U =>
 (av .add aL false v5 v28).wp K U (fun dO U =>
 lp v0 v2 v3 dO U) (aa R)) (aa R)) (aa R)) (aa R)) (aa R)) (aa R)) (aa R))) (aa R)) (aa R)) (
 al R (.aN []) U)) (aa R)))))))))) (aa R)) (aa R)) (aa R)) (aa R)
def JM : Prop :=
 gC 2 (fun v0 v1 U =>
 gC 1 (fun ni U =>
 al R ni U) fun uB =>
 (tX (some (43, 6)) v0).wp K U (fun v10 U =>
 (bU (some false) v0).wp K U (fun v12 U =>
 (av .sub aL false v10 v12).wp K U (fun cb U =>
 (av .sub aL false v1 cb).wp K U (fun cL U =>
 (av .gtr aL true cL (.int .i64 0)).wp K U (fun du U =>
 az du (
 (tX (some (43, 6)) v0).wp K U (fun di U =>
 (dh false (some (43, 6)) v0 none (some di)).wp K U (fun v20 U =>
 (vr (43, 6, [.int .u8 0, .str [], .int .i64 0, .int .i64 0, .int .i64 0, .int .i64 0]) true v20 cL).wp K U (fun de U =>
 (bU (some false) v0).wp K U (fun v24 U =>
 (dh false (some (43, 6)) de none (some v24)).wp K U (fun dW U =>
 uB dW U) (aa R)) (aa R)) (aa R)) (aa R)) (aa R)) (
 uB v0 U)) (aa R)) (aa R)) (aa R)) (aa R)) (aa R)) fun j =>
 (av .lss aL true a1 (.int .i64 0)).wp K U (fun v6 U =>
 az v6 (
 (mT true 9 (.str pS)).wp K U (fun v7 U =>
 (mW v7).wp K U (fun _ U =>
 j a0 a1 U) (aa R)) (aa R)) (
 j a0 a1 U)) (aa R)
def JO : Prop :=
 ae K 99 [a0, (.int .u8 10)] U (ar (fun v7 U =>
 (aH (some (9, 1)) (some [.str []]) 3 false [(0, (.str zG)), (1, (.str vb)), (2, (.str kT))]).wp K U (fun v8 U =>
 (bU (some false) v8).wp K U (fun v9 U =>
 dQ 5 [a0, v7, v8, v9, (.int .i64 0)] U fun lp v0 v3 pR jn v10 U =>
 (av .lss aL false v10 jn).wp K U (fun v11 U =>
 az v11 (
 (aP (some (9, 1)) none pR v10).wp K U (fun v12 U =>
 (aq aG v12 U).wp K U (fun cb U =>
 ae K 102 [v0, cb] U (ar (fun du U =>
 ae K 169 [v0] U (ar (fun di U =>
 (aH (some (87, 1)) (some [.aT]) 1 false [(0, di)]).wp K U (fun v20 U =>
 ae K 103 [v3, v20] U (ar (fun v21 U =>
 (av .add aL true v10 (.int .i64 1)).wp K U (fun de U =>
 lp v0 v3 pR jn de U) (aa R)) (aa R))) (aa R)) (aa R))) (aa R))) (aa R)) (aa R)) (
 al R v3 U)) (aa R)) (aa R)) (aa R)) (aa R))
def JQ : Prop :=
 ae K 99 [a0, (.int .u8 11)] U (ar (fun v7 U =>
 (aH (some (9, 1)) (some [.str []]) 2 false [(0, (.str o9)), (1, (.str Dl))]).wp K U (fun v8 U =>
 (bU (some false) v8).wp K U (fun v9 U =>
 dQ 5 [a0, v7, v8, v9, (.int .i64 0)] U fun lp v0 v3 pR jn v10 U =>
 (av .lss aL false v10 jn).wp K U (fun v11 U =>
 az v11 (
 (aP (some (9, 1)) none pR v10).wp K U (fun v12 U =>
 (aq aG v12 U).wp K U (fun cb U =>
 ae K 102 [v0, cb] U (ar (fun du U =>
 ae K 169 [v0] U (ar (fun di U =>
 (aH (some (87, 1)) (some [.aT]) 1 false [(0, di)]).wp K U (fun v20 U =>
 ae K 103 [v3, v20] U (ar (fun v21 U =>
 (av .add aL true v10 (.int .i64 1)).wp K U (fun de U =>
 lp v0 v3 pR jn de U) (aa R)) (aa R))) (aa R)) (aa R))) (aa R))) (aa R)) (aa R)) (
 al R v3 U)) (aa R)) (aa R)) (aa R)) (aa R))
def JS : Prop :=
 ae K 99 [a0, (.int .u8 12)] U (ar (fun v5 U =>
 ae K 102 [a0, (.str yK)] U (ar (fun v7 U =>
 ae K 101 [a0] U (ar (fun v10 U =>
 (bh v5).wp K U (fun v11 U =>
 (af (some 0) v11).wp K U (fun v12 U =>
 (af (some 1) v12).wp K U (fun cb U =>
 (aF aG cb v10 U).wp K U (fun _ U =>
 ae K 102 [a0, (.str yF)] U (ar (fun c6 U =>
 ae K 168 [a0] U (ar (fun ck U =>
 (bh v5).wp K U (fun di U =>
 (af (some 0) di).wp K U (fun v20 U =>
 (af (some 2) v20).wp K U (fun v21 U =>
 (aF aG v21 ck U).wp K U (fun _ U =>
 ae K 102 [a0, (.str cN)] U (ar (fun eu U =>
 ae K 168 [a0] U (ar (fun eY U =>
 (bh v5).wp K U (fun dB U =>
 (af (some 0) dB).wp K U (fun v28 U =>
 (af (some 3) v28).wp K U (fun dO U =>
 (aF aG dO eY U).wp K U (fun _ U =>
 ae K 102 [a0, (.str ri)] U (ar (fun v31 U =>
 ae K 169 [a0] U (ar (fun fQ U =>
 (aH (some (87, 1)) (some [.aT]) 1 false [(0, fQ)]).wp K U (fun gj U =>
 ae K 103 [v5, gj] U (ar (fun hC U =>
 al R hC U) (aa R))) (aa R)) (aa R))) (aa R))) (aa R)) (aa R)) (aa R)) (aa R)) (aa R))) (aa R))) (aa R)) (aa R)) (aa R)) (aa R)) (aa R))) (aa R))) (aa R)) (aa R)) (aa R)) (aa R)) (aa R))) (aa R))) (aa R))
def JU : Prop :=
 ae K 99 [a0, (.int .u8 13)] U (ar (fun v5 U =>
 ae K 102 [a0, (.str rZ)] U (ar (fun v7 U =>
 ae K 101 [a0] U (ar (fun v10 U =>
 (bh v5).wp K U (fun v11 U =>
 (af (some 0) v11).wp K U (fun v12 U =>
 (af (some 1) v12).wp K U (fun cb U =>
 (aF aG cb v10 U).wp K U (fun _ U =>
 ae K 102 [a0, (.str ri)] U (ar (fun c6 U =>
 ae K 169 [a0] U (ar (fun ck U =>
 (aH (some (87, 1)) (some [.aT]) 1 false [(0, ck)]).wp K U (fun di U =>
 ae K 103 [v5, di] U (ar (fun v20 U =>
 ae K 102 [a0, (.str kT)] U (ar (fun de U =>
 ae K 169 [a0] U (ar (fun dW U =>
 (aH (some (87, 1)) (some [.aT]) 1 false [(0, dW)]).wp K U (fun eY U =>
 ae K 103 [v5, eY] U (ar (fun dB U =>
 al R dB U) (aa R))) (aa R)) (aa R))) (aa R))) (aa R))) (aa R)) (aa R))) (aa R))) (aa R)) (aa R)) (aa R)) (aa R)) (aa R))) (aa R))) (aa R))
def JW : Prop :=
 ae K 99 [a0, (.int .u8 15)] U (ar (fun v5 U =>
 ae K 102 [a0, (.str pT)] U (ar (fun v7 U =>
 ae K 169 [a0] U (ar (fun v10 U =>
 (aH (some (87, 1)) (some [.aT]) 1 false [(0, v10)]).wp K U (fun v11 U =>
 ae K 103 [v5, v11] U (ar (fun v12 U =>
 ae K 102 [a0, (.str kT)] U (ar (fun cL U =>
 ae K 169 [a0] U (ar (fun df U =>
 (aH (some (87, 1)) (some [.aT]) 1 false [(0, df)]).wp K U (fun ck U =>
 ae K 103 [v5, ck] U (ar (fun di U =>
 al R di U) (aa R))) (aa R)) (aa R))) (aa R))) (aa R))) (aa R)) (aa R))) (aa R))) (aa R))
def JY : Prop :=
 ae K 99 [a0, (.int .u8 14)] U (ar (fun v5 U =>
 ae K 102 [a0, (.str pV)] U (ar (fun v7 U =>
 ae K 101 [a0] U (ar (fun v10 U =>
 (bh v5).wp K U (fun v11 U =>
 (af (some 0) v11).wp K U (fun v12 U =>
 (af (some 1) v12).wp K U (fun cb U =>
 (aF aG cb v10 U).wp K U (fun _ U =>
 ae K 102 [a0, (.str cN)] U (ar (fun c6 U =>
 ae K 168 [a0] U (ar (fun ck U =>
 (bh v5).wp K U (fun di U =>
 (af (some 0) di).wp K U (fun v20 U =>
 (af (some 2) v20).wp K U (fun v21 U =>
 (aF aG v21 ck U).wp K U (fun _ U =>
 ae K 102 [a0, (.str ri)] U (ar (fun eu U =>
 ae K 169 [a0] U (ar (fun eY U =>
 (aH (some (87, 1)) (some [.aT]) 1 false [(0, eY)]).wp K U (fun dB U =>
 ae K 103 [v5, dB] U (ar (fun v28 U =>
 al R v28 U) (aa R))) (aa R)) (aa R))) (aa R))) (aa R)) (aa R)) (aa R)) (aa R)) (aa R))) (aa R))) (aa R)) (aa R)) (aa R)) (aa R)) (aa R))) (aa R))) (aa R))
def J0 : Prop :=
 (fun ay : St =>
 ai K (bh a0) (fun v4 =>
 ai K (af (some 1) v4) (fun v5 =>
 ai K (aq aG v5 ay) (fun v6 =>
 ai K (bh a0) (fun v8 =>
 ai K (af (some 0) v8) (fun v9 =>
 ai K (aq aG v9 ay) (fun v10 =>
 ai K (bU (some false) v10) (fun v11 =>
 ai K (av .lss aL false v6 v11) (fun v12 =>
 az v12 (
 (fun eg : St =>
 ai K (bh a0) (fun cL =>
 ai K (af (some 0) cL) (fun c6 =>
 ai K (aq aG c6 eg) (fun du =>
 ai K (bh a0) (fun ck =>
 ai K (af (some 1) ck) (fun di =>
 ai K (aq aG di eg) (fun v20 =>
 ai K (aP (some (51, 3)) none du v20) (fun v21 =>
 ai K (af (some 2) v21) (fun de =>
 ai K (aq aG de eg) (fun eu =>
 al R eu U)))))))))) U) (
 (bh a0).wp K U (fun dW U =>
 (af (some 2) dW).wp K U (fun eY U =>
 (aq aG eY U).wp K U (fun dB U =>
 al R dB U) (aa R)) (aa R)) (aa R))))))))))) U
def To : Prop :=
 ae K 167 [a0, (.int .i64 0)] U (ar (fun v7 U =>
 (aA.cj [.int .u8 0, .str [], .int .i64 0]).wp K U (fun v5 U =>
 (aF (some (true, 3)) v5 v7 U).wp K U (fun _ U =>
 gC 2 (fun v0 Ny U =>
 (bh v0).wp K U (fun c6 U =>
 (af (some 1) c6).wp K U (fun du U =>
 (aq aG du U).wp K U (fun df U =>
 (av .add aL true df (.int .i64 1)).wp K U (fun ck U =>
 (bh v0).wp K U (fun di U =>
 (af (some 1) di).wp K U (fun v20 U =>
 (aF aG v20 ck U).wp K U (fun _ U =>
 (af (some 1) Ny).wp K U (fun v21 U =>
 (aq aG v21 U).wp K U (fun de U =>
 al R de U) (aa R)) (aa R)) (aa R)) (aa R)) (aa R)) (aa R)) (aa R)) (aa R)) (aa R)) fun j =>
 (af (some 0) v5).wp K U (fun v8 U =>
 (aq aG v8 U).wp K U (fun v9 U =>
 (av .neq aL false v9 a1).wp K U (fun v11 U =>
 az v11 (
 ae K 166 [a0] U (ar (fun cb U =>
 j a0 v5 U) (aa R))) (
 j a0 v5 U)) (aa R)) (aa R)) (aa R)) (aa R)) (aa R)) (aa R))
def Tp : Prop :=
 ae K 164 [a0] U (ar (fun v3 U =>
 (dV (some [(0, 1)]) (some [.int .i64 0]) none [(0, v3)]).wp K U (fun v4 U =>
 (mT true 136 v4).wp K U (fun v5 U =>
 (mW v5).wp K U (fun _ U =>
 al R (.aN []) U) (aa R)) (aa R)) (aa R)) (aa R))
def J4 : Prop :=
 (aA.cj [.int .u8 0, .str [], .int .i64 0]).wp K U (fun v4 U =>
 (fun ay : St =>
 ai K (bh a0) (fun v6 =>
 ai K (af (some 1) v6) (fun v7 =>
 ai K (aq aG v7 ay) (fun v8 =>
 ai K (av .add aL false v8 a1) (fun v10 =>
 ai K (bh a0) (fun v12 =>
 ai K (af (some 0) v12) (fun cb =>
 ai K (aq aG cb ay) (fun cL =>
 ai K (bU (some false) cL) (fun c6 =>
 ai K (av .lss aL false v10 c6) (fun du =>
 az du (
 (fun eg : St =>
 ai K (bh a0) (fun ck =>
 ai K (af (some 0) ck) (fun di =>
 ai K (aq aG di eg) (fun v20 =>
 ai K (bh a0) (fun de =>
 ai K (af (some 1) de) (fun eu =>
 ai K (aq aG eu eg) (fun v24 =>
 ai K (av .add aL false v24 a1) (fun eY =>
 ai K (aP (some (51, 3)) none v20 eY) (fun dB =>
 ai K (aq (some (true, 3)) dB eg) (fun v28 =>
 (aF (some (true, 3)) v4 v28 U).wp K U (fun _ U =>
 bA (some (true, 3)) v4 U fun r0 =>
 al R r0 U) (aa R))))))))))) U) (
 (dV (some [(0, 1), (1, 1), (2, 1)]) (some [.int .u8 0, .str [], .int .i64 0]) none []).wp K U (fun dO U =>
 (aF (some (true, 3)) v4 dO U).wp K U (fun _ U =>
 bA (some (true, 3)) v4 U fun pM =>
 al R pM U) (aa R)) (aa R)))))))))))) U) (aa R)
def Tq : Prop :=
 ae K 165 [a0, (.int .u8 2)] U (ar (fun v7 U =>
 ae K 218 [v7] U (ar (fun v8 U =>
 (aV v8 0).wp K U (fun v9 U =>
 (aV v8 1).wp K U (fun v10 U =>
 gC 1 (fun v3 U =>
 al R v3 U) fun j =>
 (av .neq (BT.mk false true false none false) true v10 .cA).wp K U (fun v12 U =>
 az v12 (
 ae K 166 [a0] U (ar (fun cL U =>
 j v9 U) (aa R))) (
 j v9 U)) (aa R)) (aa R)) (aa R)) (aa R))) (aa R))
def J7 : Prop :=
 ae K 167 [a0, (.int .i64 0)] U (ar (fun v8 U =>
 (aA.cj [.int .u8 0, .str [], .int .i64 0]).wp K U (fun v3 U =>
 (aF (some (true, 3)) v3 v8 U).wp K U (fun _ U =>
 (fun ay : St =>
 ai K (bh a0) (fun v11 =>
 ai K (af (some 4) v11) (fun v12 =>
 ai K (aq aG v12 ay) (fun cb =>
 ai K (af (some 1) v3) (fun cL =>
 ai K (aq aG cL ay) (fun c6 =>
 ai K (eM (some (.s, 186)) (some .cP) cb c6 true ay) (fun du =>
 ai K (aV du 0) (fun df =>
 ai K (aV du 1) (fun ck =>
 aj K (aI ck true) (af (some 0) v3) (fun v21 =>
 aj K (aI ck true) (aq aG v21 U) (fun de =>
 aj K (aI ck true) (av .eql aL true de (.int .u8 3)) (fun eu =>
 (bF ck eu (.bool false)).wp K U (fun v24 U =>
 az v24 (
 (fo K.P df [a0]).wp K U (fun dB U =>
 al R dB U) (aa R)) (
 gC 2 (fun v0 hC U =>
 az hC (
 ae K 99 [v0, (.int .u8 16)] U (ar (fun jl U =>
 ae K 101 [v0] U (ar (fun lu U =>
 (bh jl).wp K U (fun nx U =>
 (af (some 0) nx).wp K U (fun iz U =>
 (af (some 1) iz).wp K U (fun ov U =>
 (aF aG ov lu U).wp K U (fun _ U =>
 ae K 102 [v0, (.str cN)] U (ar (fun v46 U =>
 ae K 169 [v0] U (ar (fun v49 U =>
 (aH (some (87, 1)) (some [.aT]) 1 false [(0, v49)]).wp K U (fun qz U =>
 ae K 103 [jl, qz] U (ar (fun v51 U =>
 al R v51 U) (aa R))) (aa R)) (aa R))) (aa R))) (aa R)) (aa R)) (aa R)) (aa R)) (aa R))) (aa R))) (
 ae K 219 [v0, (.int .i64 2)] U (ar (fun v53 U =>
 al R v53 U) (aa R)))) fun j =>
 (af (some 0) v3).wp K U (fun v28 U =>
 (aq aG v28 U).wp K U (fun dO U =>
 (av .eql aL true dO (.int .u8 1)).wp K U (fun v30 U =>
 aj K (aI v30 true) (aA.val a0) (fun iQ =>
 az (aI v30 true) (
 ae K 167 [iQ, (.int .i64 1)] U (ar (fun fj U =>
 aj K (aI v30 true) (aH (some (9, 1)) (some [.str []]) 1 false [(0, (.str cN))]) (fun fQ =>
 aj K (aI v30 true) (aA.enter 121 [fj, fQ]) (fun gj =>
 (bF v30 gj (.bool false)).wp K U (fun nY U =>
 j a0 nY U) (aa R)))) (aa R))) (
 aj K (aI v30 true) (aH (some (9, 1)) (some [.str []]) 1 false [(0, (.str cN))]) (fun G5 =>
 aj K (aI v30 true) (aA.enter 121 [(.aN []), G5]) (fun yy =>
 (bF v30 yy (.bool false)).wp K U (fun Wa U =>
 j a0 Wa U) (aa R)))))) (aa R)) (aa R)) (aa R))) (aa R))))))))))))) U) (aa R)) (aa R)) (aa R))
def Tr : Prop :=
 ae K 230 [a0, a1] U (ar (fun v7 U =>
 (av .geq aL true v7 (.int .i64 0)).wp K U (fun v8 U =>
 al R v8 U) (aa R)) (aa R))
def Ka : Prop :=
 (av .geq aL true a0 (.int .u8 2)).wp K U (fun v4 U =>
 aj K (aI v4 true) (aA.val a0) (fun v6 =>
 aj K (aI v4 true) (av .leq aL true v6 (.int .u8 4)) (fun v7 =>
 (bF v4 v7 (.bool false)).wp K U (fun v8 U =>
 al R v8 U) (aa R)))) (aa R)
def Kc : Prop :=
 ae K 206 [a0] U (ar (fun v4 U =>
 aj K (aI v4 false) (aA.val a0) (fun v6 =>
 aj K (aI v4 false) (av .eql aL true v6 (.int .u8 8)) (fun v7 =>
 (bF v4 (.bool true) v7).wp K U (fun v8 U =>
 al R v8 U) (aa R)))) (aa R))
def Kf : Prop :=
 (av .geq aL true a0 (.int .u8 9)).wp K U (fun v4 U =>
 aj K (aI v4 true) (aA.val a0) (fun v6 =>
 aj K (aI v4 true) (av .leq aL true v6 (.int .u8 34)) (fun v7 =>
 (bF v4 v7 (.bool false)).wp K U (fun v8 U =>
 al R v8 U) (aa R)))) (aa R)
def Kh : Prop :=
 (av .eql aL true a0 (.int .u8 6)).wp K U (fun v4 U =>
 aj K (aI v4 false) (aA.val a0) (fun v6 =>
 aj K (aI v4 false) (av .eql aL true v6 (.int .u8 7)) (fun v7 =>
 (bF v4 (.bool true) v7).wp K U (fun v8 U =>
 al R v8 U) (aa R)))) (aa R)
def Kj : Prop :=
 ae K 185 [a0] U (ar (fun v4 U =>
 aj K (aI v4 false) (aA.val a0) (fun v6 =>
 aj K (aI v4 false) (av .eql aL true v6 (.int .u8 35)) (fun v7 =>
 (bF v4 (.bool true) v7).wp K U (fun v8 U =>
 aj K (aI v8 false) (aA.val a0) (fun v10 =>
 aj K (aI v8 false) (av .eql aL true v10 (.int .u8 36)) (fun v11 =>
 (bF v8 (.bool true) v11).wp K U (fun v12 U =>
 al R v12 U) (aa R)))) (aa R)))) (aa R))
def Kl : Prop :=
 ae K 33 [a0] U (ar (fun v8 U =>
 (aV v8 0).wp K U (fun v9 U =>
 (aV v8 1).wp K U (fun v10 U =>
 (aV v8 2).wp K U (fun v11 U =>
 (av .eql aL true v11 (.int .i64 0)).wp K U (fun cb U =>
 aj K (aI cb true) (aA.val v9) (fun c6 =>
 aj K (aI cb true) (bU (some false) c6) (fun du =>
 aj K (aI cb true) (av .eql aL true du (.int .i64 1)) (fun df =>
 (bF cb df (.bool false)).wp K U (fun ck U =>
 aj K (aI ck true) (aA.val v9) (fun v20 =>
 aj K (aI ck true) (aP (some (51, 3)) none v20 (.int .i64 0)) (fun v21 =>
 aj K (aI ck true) (af (some 0) v21) (fun de =>
 aj K (aI ck true) (aq aG de U) (fun eu =>
 aj K (aI ck true) (av .eql aL true eu (.int .u8 1)) (fun v24 =>
 (bF ck v24 (.bool false)).wp K U (fun dW U =>
 aj K (aI dW true) (aA.val v9) (fun dB =>
 aj K (aI dW true) (aP (some (51, 3)) none dB (.int .i64 0)) (fun v28 =>
 aj K (aI dW true) (af (some 1) v28) (fun dO =>
 aj K (aI dW true) (aq aG dO U) (fun v30 =>
 aj K (aI dW true) (aA.val a0) (fun v31 =>
 aj K (aI dW true) (av .eql aL false v30 v31) (fun iQ =>
 (bF dW iQ (.bool false)).wp K U (fun fj U =>
 al R fj U) (aa R)))))))) (aa R))))))) (aa R))))) (aa R)) (aa R)) (aa R)) (aa R)) (aa R))
def Ko : Prop :=
 (bU (some false) a1).wp K U (fun v12 U =>
 dQ 5 [a0, a1, a1, v12, (.int .i64 0)] U fun lp v0 v1 v11 O0 cb U =>
 (av .lss aL false cb O0).wp K U (fun cL U =>
 az cL (
 (aP (some (200, 3)) none v11 cb).wp K U (fun du U =>
 (aq (some (true, 3)) du U).wp K U (fun df U =>
 (aA.cj [.cP, .int .i64 0, .int .i64 0]).wp K U (fun v6 U =>
 (aF (some (true, 3)) v6 df U).wp K U (fun _ U =>
 (av .add aL true cb (.int .i64 1)).wp K U (fun v20 U =>
 (dh false (some (200, 3)) v1 (some v20) none).wp K U (fun v21 U =>
 (bU (some false) v21).wp K U (fun de U =>
 dQ 10 [v0, v1, v6, (.int .i64 0), v11, O0, cb, v21, de, (.int .i64 0)] U fun wY ni jK re v7 tf O3 nX O8 O9 eu U =>
 (av .lss aL false eu O9).wp K U (fun v24 U =>
 az v24 (
 (aP (some (200, 3)) none O8 eu).wp K U (fun dW U =>
 (aq (some (true, 3)) dW U).wp K U (fun eY U =>
 (aA.cj [.cP, .int .i64 0, .int .i64 0]).wp K U (fun v9 U =>
 (aF (some (true, 3)) v9 eY U).wp K U (fun _ U =>
 (af (some 1) v9).wp K U (fun v28 U =>
 (aq aG v28 U).wp K U (fun dO U =>
 (av .add aL false v7 dO).wp K U (fun v30 U =>
 (av .add aL true eu (.int .i64 1)).wp K U (fun v31 U =>
 wY ni jK re v30 tf O3 nX O8 O9 v31 U) (aa R)) (aa R)) (aa R)) (aa R)) (aa R)) (aa R)) (aa R)) (aa R)) (
 dQ 8 [ni, jK, re, v7, (.int .i64 0), tf, O3, nX] U fun Yz GW Uf G6 jL v10 OY O5 tg U =>
 gC 9 (fun TK Ug Ui Nz te OZ O6 O7 wF U =>
 az wF (
 (av .add aL true te (.int .i64 1)).wp K U (fun rX U =>
 Yz TK Ug Ui Nz rX OZ O6 O7 U) (aa R)) (
 (af (some 1) Ui).wp K U (fun rY U =>
 (aq aG rY U).wp K U (fun AJ U =>
 (av .lss aL false te AJ).wp K U (fun Df U =>
 az Df (
 al R (.bool false) U) (
 (dh false (some (5, 1)) TK (some te) none).wp K U (fun tN U =>
 (av .add aL true O7 (.int .i64 1)).wp K U (fun K8 U =>
 lp tN Ug OZ O6 K8 U) (aa R)) (aa R))) (aa R)) (aa R)) (aa R))) fun j =>
 (fun ay : St =>
 ai K (bU (some false) GW) (fun fQ =>
 ai K (av .sub aL false fQ jL) (fun hC =>
 ai K (av .lss aL false v10 hC) (fun v37 =>
 aj K (aI v37 true) (aA.val v10) (fun ou =>
 aj K (aI v37 true) (af (some 2) G6) (fun v40 =>
 aj K (aI v37 true) (aq aG v40 ay) (fun lu =>
 aj K (aI v37 true) (av .lss aL false ou lu) (fun nx =>
 ai K (bF v37 nx (.bool false)) (fun iz =>
 aj K (aI iz true) (af (some 0) G6) (fun u9 =>
 aj K (aI iz true) (aq aG u9 ay) (fun v46 =>
 aj K (aI iz true) (aA.val GW) (fun ow =>
 aj K (aI iz true) (aA.val v10) (fun AI =>
 aj K (aI iz true) (aP (some (5, 1)) none ow AI) (fun v49 =>
 aj K (aI iz true) (aq aG v49 ay) (fun qz =>
 az (aI iz true) (
 (fo K.P v46 [qz]).wp K U (fun v51 U => bG ((bV v49 ++ []) ++ ((bV u9 ++ []) ++ ((bV v40 ++ []) ++ []))) ay U /\
 ai K (bF iz v51 (.bool false)) (fun Wb =>
 j GW Uf G6 jL v10 OY O5 tg Wb U)) (aa R)) (
 ai K (bF iz (.aN []) (.bool false)) (fun Wc =>
 j GW Uf G6 jL v10 OY O5 tg Wc U))))))))))))))))) U)) (aa R)) (aa R)) (aa R)) (aa R)) (aa R)) (aa R)) (aa R)) (aa R)) (
 (bU (some false) v0).wp K U (fun va U =>
 (av .eql aL true va (.int .i64 0)).wp K U (fun Dg U =>
 al R Dg U) (aa R)) (aa R))) (aa R)) (aa R)
def C2 : Prop :=
 (bU (some false) a0).wp K U (fun v7 U =>
 dQ 4 [a0, a1, v7, (.int .i64 0)] U fun lp v0 v1 jL v8 U =>
 (av .lss aL false v8 jL).wp K U (fun v9 U =>
 az v9 (
 (aP (some (3, 1)) none v0 v8).wp K U (fun cL U =>
 (aq aG cL U).wp K U (fun c6 U =>
 (fo K.P v1 [c6]).wp K U (fun du U =>
 az du (
 al R v8 U) (
 (av .add aL true v8 (.int .i64 1)).wp K U (fun ck U =>
 lp v0 v1 jL ck U) (aa R))) (aa R)) (aa R)) (aa R)) (
 al R (.int .i64 (-1)) U)) (aa R)) (aa R)
def Ts : Prop :=
 ae K 243 [a0, a1] U (ar (fun v10 U =>
 (av .geq aL true v10 (.int .i64 0)).wp K U (fun v12 U =>
 az v12 (
 (fun ay : St =>
 ai K (dh true none a0 none (some v10)) (fun c6 =>
 ai K (bU (some true) a1) (fun di =>
 ai K (av .add aL false v10 di) (fun v20 =>
 ai K (dh true none a0 (some v20) none) (fun v21 =>
 al R (.aN [c6, v21, (.bool true)]) U))))) U) (
 al R (.aN [a0, (.str w_), (.bool false)]) U)) (aa R)) (aa R))
def Tt : Prop :=
 ae K 246 [a0, a1] U (ar (fun v7 U =>
 (av .geq aL true v7 (.int .i64 0)).wp K U (fun v8 U =>
 al R v8 U) (aa R)) (aa R))
def Kt : Prop :=
 (av .eql aL true a0 (.int .u8 32)).wp K U (fun v5 U =>
 aj K (aI v5 false) (aA.val a0) (fun v7 =>
 aj K (aI v5 false) (av .eql aL true v7 (.int .u8 10)) (fun v8 =>
 (bF v5 (.bool true) v8).wp K U (fun v9 U =>
 az v9 (
 al R (.int .i64 1) U) (
 (av .lss aL true a0 (.int .u8 32)).wp K U (fun v12 U =>
 aj K (aI v12 false) (aA.val a0) (fun cL =>
 aj K (aI v12 false) (av .gtr aL true cL (.int .u8 126)) (fun c6 =>
 (bF v12 (.bool true) c6).wp K U (fun du U =>
 az du (
 al R (.int .i64 0) U) (
 (av .geq aL true a0 (.int .u8 48)).wp K U (fun di U =>
 aj K (aI di true) (aA.val a0) (fun v21 =>
 aj K (aI di true) (av .leq aL true v21 (.int .u8 57)) (fun de =>
 (bF di de (.bool false)).wp K U (fun eu U =>
 az eu (
 al R (.int .i64 2) U) (
 (av .geq aL true a0 (.int .u8 97)).wp K U (fun eY U =>
 aj K (aI eY true) (aA.val a0) (fun v28 =>
 aj K (aI eY true) (av .leq aL true v28 (.int .u8 122)) (fun dO =>
 (bF eY dO (.bool false)).wp K U (fun v30 U =>
 az v30 (
 al R (.int .i64 3) U) (
 (av .geq aL true a0 (.int .u8 65)).wp K U (fun fj U =>
 aj K (aI fj true) (aA.val a0) (fun gj =>
 aj K (aI fj true) (av .leq aL true gj (.int .u8 90)) (fun hC =>
 (bF fj hC (.bool false)).wp K U (fun v37 U =>
 az v37 (
 al R (.int .i64 4) U) (
 al R (.int .i64 5) U)) (aa R)))) (aa R))) (aa R)))) (aa R))) (aa R)))) (aa R))) (aa R)))) (aa R))) (aa R)))) (aa R)
def Kv : Prop :=
 (av .eql aL true a1 (.int .i64 9)).wp K U (fun v12 U =>
 az v12 (
 ae K 252 [a0] U (ar (fun cL U =>
 al R cL U) (aa R))) (
 (av .eql aL true a1 (.int .i64 4)).wp K U (fun du U =>
 az du (
 ae K 99 [a0, (.int .u8 19)] U (ar (fun ck U =>
 ae K 100 [a0, (.str Hd)] U (ar (fun v20 U =>
 az v20 (
 ae K 219 [a0, (.int .i64 4)] U (ar (fun eu U =>
 (aH (some (87, 1)) (some [.aT]) 1 false [(0, eu)]).wp K U (fun v24 U =>
 ae K 103 [ck, v24] U (ar (fun dW U =>
 al R dW U) (aa R))) (aa R)) (aa R))) (
 (av .add aL true a1 (.int .i64 1)).wp K U (fun v28 U =>
 ae K 219 [a0, v28] U (ar (fun dO U =>
 al R dO U) (aa R))) (aa R))) (aa R))) (aa R))) (
 (av .add aL true a1 (.int .i64 1)).wp K U (fun iQ U =>
 ae K 219 [a0, iQ] U (ar (fun fj U =>
 dQ 3 [a0, a1, fj] U fun lp v0 v1 v6 U =>
 (fun ay : St =>
 ai K (bh v0) (fun hC =>
 ai K (af (some 3) hC) (fun v37 =>
 ai K (aq aG v37 ay) (fun jl =>
 ai K (eM (some (.i, 185)) (some .jf) jl v1 false ay) (fun v40 =>
 ae K 253 [v0] U (ar (fun nx U => bG ((bV jl ++ (bV v1 ++ [])) ++ ((bV v37 ++ []) ++ [])) ay U /\
 (∀ b ∈ bV v40 ++ (bV nx ++ []), b ∈ (bV jl ++ (bV v1 ++ [])) ++ ((bV v37 ++ []) ++ [])) /\
 ai K (eM (some (.s, 5)) (some (.int .u8 0)) v40 nx true ay) (fun iz =>
 ai K (aV iz 0) (fun ov =>
 ai K (aV iz 1) (fun u9 =>
 (gM .not u9).wp K U (fun ow U =>
 az ow (
 al R v6 U) (
 ae K 99 [v0, ov] U (ar (fun v51 U =>
 (bh v0).wp K U (fun v53 U =>
 (af (some 1) v53).wp K U (fun rX U =>
 (aq aG rX U).wp K U (fun pQ U =>
 (av .add aL true pQ (.int .i64 1)).wp K U (fun rY U =>
 (bh v0).wp K U (fun AJ U =>
 (af (some 1) AJ).wp K U (fun Df U =>
 (aF aG Df rY U).wp K U (fun _ U =>
 (av .eql aL true v1 (.int .i64 8)).wp K U (fun K7 U =>
 az K7 (
 ae K 168 [v0] U (ar (fun yz U =>
 (bh v51).wp K U (fun va U =>
 (af (some 0) va).wp K U (fun Dg U =>
 (af (some 2) Dg).wp K U (fun K9 U =>
 (aF aG K9 yz U).wp K U (fun _ U =>
 (aH (some (87, 1)) (some [.aT]) 1 false [(0, v6)]).wp K U (fun Dh U =>
 ae K 103 [v51, Dh] U (ar (fun v70 U =>
 lp v0 v1 v70 U) (aa R))) (aa R)) (aa R)) (aa R)) (aa R)) (aa R)) (aa R))) (
 (av .add aL true v1 (.int .i64 1)).wp K U (fun v75 U =>
 ae K 219 [v0, v75] U (ar (fun v76 U =>
 (aH (some (87, 1)) (some [.aT]) 2 false [(0, v6), (1, v76)]).wp K U (fun AK U =>
 ae K 103 [v51, AK] U (ar (fun Pa U =>
 (av .eql aL true v1 (.int .i64 5)).wp K U (fun v80 U =>
 az v80 (
 al R Pa U) (
 lp v0 v1 Pa U)) (aa R)) (aa R))) (aa R)) (aa R))) (aa R))) (aa R)) (aa R)) (aa R)) (aa R)) (aa R)) (aa R)) (aa R)) (aa R)) (aa R)))) (aa R))))) (aa R))))))) U) (aa R))) (aa R))) (aa R))) (aa R)
def Kx : Prop :=
 (bU (some false) a0).wp K U (fun v7 U =>
 dQ 4 [a0, a1, v7, (.int .i64 0)] U fun lp v0 v1 jL v8 U =>
 (av .lss aL false v8 jL).wp K U (fun v9 U =>
 az v9 (
 (aP (some (9, 1)) none v0 v8).wp K U (fun cL U =>
 (aq aG cL U).wp K U (fun c6 U =>
 (av .eql aL false v1 c6).wp K U (fun du U =>
 az du (
 al R v8 U) (
 (av .add aL true v8 (.int .i64 1)).wp K U (fun ck U =>
 lp v0 v1 jL ck U) (aa R))) (aa R)) (aa R)) (aa R)) (
 al R (.int .i64 (-1)) U)) (aa R)) (aa R)
def Kz : Prop :=
 (bh a0).wp K U (fun v10 U =>
 (af (some 2) v10).wp K U (fun v11 U =>
 (aq aG v11 U).wp K U (fun v12 U =>
 (uS (some (.i, 185)) v12).wp K U (fun cb U =>
 dQ 2 [a1, cb] U fun lp v1 nX U =>
 (oY nX U).wp K U (fun cL U =>
 (aV cL 0).wp K U (fun c6 U =>
 az c6 (
 (lH nX U).wp K U (fun du U =>
 (aV du 0).wp K U (fun df U =>
 (aV du 1).wp K U (fun ck U =>
 (uS (some (.s, 5)) ck).wp K U (fun v20 U =>
 dQ 4 [v1, df, nX, v20] U fun wY jK v5 tg G4 U =>
 (oY G4 U).wp K U (fun v21 U =>
 (aV v21 0).wp K U (fun de U =>
 az de (
 (lH G4 U).wp K U (fun eu U =>
 (aV eu 1).wp K U (fun v24 U =>
 (av .eql aL false v24 jK).wp K U (fun dB U =>
 az dB (
 al R v5 U) (
 wY jK v5 tg G4 U)) (aa R)) (aa R)) (aa R)) (
 lp jK tg U)) (aa R)) (aa R)) (aa R)) (aa R)) (aa R)) (aa R)) (
 (av .eql aL true v1 (.int .u8 9)).wp K U (fun v31 U =>
 az v31 (
 al R (.int .i64 0) U) (
 (av .eql aL true v1 (.int .u8 19)).wp K U (fun fQ U =>
 az fQ (
 al R (.int .i64 4) U) (
 (av .geq aL true v1 (.int .u8 10)).wp K U (fun v37 U =>
 aj K (aI v37 true) (aA.val v1) (fun ou =>
 aj K (aI v37 true) (av .leq aL true ou (.int .u8 16)) (fun v40 =>
 (bF v37 v40 (.bool false)).wp K U (fun lu U =>
 az lu (
 al R (.int .i64 1) U) (
 al R (.int .i64 9) U)) (aa R)))) (aa R))) (aa R))) (aa R))) (aa R)) (aa R)) (aa R)) (aa R)) (aa R)) (aa R)
def KB : Prop :=
 (aq aG a1 U).wp K U (fun v5 U =>
 (av .eql aL false a0 v5).wp K U (fun v6 U =>
 al R v6 U) (aa R)) (aa R)
def KE : Prop :=
 (bU (some false) a0).wp K U (fun v7 U =>
 dQ 4 [a0, a1, v7, (.int .i64 0)] U fun lp v0 v1 jL v8 U =>
 (av .lss aL false v8 jL).wp K U (fun v9 U =>
 az v9 (
 (aP (some (178, 1)) none v0 v8).wp K U (fun cL U =>
 (aq aG cL U).wp K U (fun c6 U =>
 (av .eql aL false v1 c6).wp K U (fun du U =>
 az du (
 al R v8 U) (
 (av .add aL true v8 (.int .i64 1)).wp K U (fun ck U =>
 lp v0 v1 jL ck U) (aa R))) (aa R)) (aa R)) (aa R)) (
 al R (.int .i64 (-1)) U)) (aa R)) (aa R)
def KG : Prop :=
 (aA.A7).wp K U (fun v10 U =>
 (gD (some (.s, 5)) v10 (.str fH) (.int .u8 27) U).wp K U (fun _ U =>
 (gD (some (.s, 5)) v10 (.str fV) (.int .u8 28) U).wp K U (fun _ U =>
 (gD (some (.s, 5)) v10 (.str jo) (.int .u8 29) U).wp K U (fun _ U =>
 (gD (some (.s, 5)) v10 (.str kU) (.int .u8 30) U).wp K U (fun _ U =>
 (gD (some (.s, 5)) v10 (.str nk) (.int .u8 31) U).wp K U (fun _ U =>
 (gD (some (.s, 5)) v10 (.str o3) (.int .u8 32) U).wp K U (fun _ U =>
 ae K 253 [a0] U (ar (fun c6 U =>
 (eM (some (.s, 5)) (some (.int .u8 0)) v10 c6 true U).wp K U (fun du U =>
 (aV du 0).wp K U (fun df U =>
 (aV du 1).wp K U (fun ck U =>
 az ck (
 ae K 99 [a0, df] U (ar (fun de U =>
 (bh a0).wp K U (fun v24 U =>
 (af (some 1) v24).wp K U (fun dW U =>
 (aq aG dW U).wp K U (fun eY U =>
 (av .add aL true eY (.int .i64 1)).wp K U (fun dB U =>
 (bh a0).wp K U (fun v28 U =>
 (af (some 1) v28).wp K U (fun dO U =>
 (aF aG dO dB U).wp K U (fun _ U =>
 gC 1 (fun v6 U =>
 al R v6 U) fun j =>
 (av .eql aL true df (.int .u8 31)).wp K U (fun v31 U =>
 aj K (aI v31 false) (aA.val df) (fun fj =>
 aj K (aI v31 false) (av .eql aL true fj (.int .u8 32)) (fun fQ =>
 (bF v31 (.bool true) fQ).wp K U (fun gj U =>
 az gj (
 ae K 101 [a0] U (ar (fun jl U =>
 (bh de).wp K U (fun ou U =>
 (af (some 0) ou).wp K U (fun v40 U =>
 (af (some 1) v40).wp K U (fun lu U =>
 (aF aG lu jl U).wp K U (fun _ U =>
 j de U) (aa R)) (aa R)) (aa R)) (aa R)) (aa R))) (
 j de U)) (aa R)))) (aa R)) (aa R)) (aa R)) (aa R)) (aa R)) (aa R)) (aa R)) (aa R)) (aa R))) (
 ae K 100 [a0, (.str o4)] U (ar (fun ov U =>
 az ov (
 ae K 109 [a0] U (ar (fun v46 U =>
 ae K 102 [a0, (.str qA)] U (ar (fun AI U =>
 al R v46 U) (aa R))) (aa R))) (
 ae K 167 [a0, (.int .i64 0)] U (ar (fun v51 U =>
 (p4 (some (0, false, 1)) v51).wp K U (fun wF U =>
 (av .eql aL true wF (.int .u8 2)).wp K U (fun v53 U =>
 az v53 (
 ae K 99 [a0, (.int .u8 26)] U (ar (fun pQ U =>
 ae K 168 [a0] U (ar (fun Df U =>
 (bh pQ).wp K U (fun v59 U =>
 (af (some 0) v59).wp K U (fun K7 U =>
 (af (some 2) K7).wp K U (fun tN U =>
 (aF aG tN Df U).wp K U (fun _ U =>
 al R pQ U) (aa R)) (aa R)) (aa R)) (aa R)) (aa R))) (aa R))) (
 ae K 99 [a0, (.int .u8 33)] U (ar (fun va U =>
 ae K 101 [a0] U (ar (fun wG U =>
 (bh va).wp K U (fun Uh U =>
 (af (some 0) Uh).wp K U (fun Dh U =>
 (af (some 1) Dh).wp K U (fun v70 U =>
 (aF aG v70 wG U).wp K U (fun _ U =>
 gC 1 (fun v9 U =>
 al R v9 U) fun uB =>
 ae K 100 [a0, (.str o4)] U (ar (fun v72 U =>
 az v72 (
 (bh va).wp K U (fun wH U =>
 (af (some 0) wH).wp K U (fun v75 U =>
 (af (some 0) v75).wp K U (fun v76 U =>
 (aF aG v76 (.int .u8 34) U).wp K U (fun _ U =>
 ae K 106 [a0, va, (.func (.func 269) [a0] [])] U (ar (fun Pb U =>
 ae K 102 [a0, (.str qA)] U (ar (fun Xy U =>
 uB va U) (aa R))) (aa R))) (aa R)) (aa R)) (aa R)) (aa R)) (
 uB va U)) (aa R))) (aa R)) (aa R)) (aa R)) (aa R)) (aa R))) (aa R)))) (aa R)) (aa R)) (aa R)))) (aa R)))) (aa R)) (aa R)) (aa R)) (aa R))) (aa R)) (aa R)) (aa R)) (aa R)) (aa R)) (aa R)) (aa R)
def KI : Prop :=
 ae K 167 [a0, (.int .i64 0)] U (ar (fun v5 U =>
 (aA.cj [.int .u8 0, .str [], .int .i64 0]).wp K U (fun v3 U =>
 (aF (some (true, 3)) v3 v5 U).wp K U (fun _ U =>
 (af (some 0) v3).wp K U (fun v6 U =>
 (aq aG v6 U).wp K U (fun v7 U =>
 (av .eql aL true v7 (.int .u8 3)).wp K U (fun v8 U =>
 aj K (aI v8 false) (af (some 0) v3) (fun v10 =>
 aj K (aI v8 false) (aq aG v10 U) (fun v11 =>
 aj K (aI v8 false) (av .eql aL true v11 (.int .u8 4)) (fun v12 =>
 (bF v8 (.bool true) v12).wp K U (fun cb U =>
 az cb (
 (af (some 1) v3).wp K U (fun cL U =>
 (aq aG cL U).wp K U (fun c6 U =>
 al R c6 U) (aa R)) (aa R)) (
 al R (.str w_) U)) (aa R))))) (aa R)) (aa R)) (aa R)) (aa R)) (aa R)) (aa R))
def KK : Prop :=
 (aH (some (9, 1)) (some [.str []]) 1 false [(0, (.str Ha))]).wp K U (fun v7 U =>
 ae K 105 [a0, v7] U (ar (fun v8 U =>
 az v8 (
 ae K 99 [a0, (.int .u8 35)] U (ar (fun v10 U =>
 ae K 102 [a0, (.str Ha)] U (ar (fun v12 U =>
 ae K 102 [a0, (.str o4)] U (ar (fun cL U =>
 ae K 106 [a0, v10, (.func (.func 278) [a0] [])] U (ar (fun di U =>
 ae K 102 [a0, (.str qA)] U (ar (fun v21 U =>
 ae K 169 [a0] U (ar (fun v24 U =>
 (aH (some (87, 1)) (some [.aT]) 1 false [(0, v24)]).wp K U (fun dW U =>
 ae K 103 [v10, dW] U (ar (fun eY U =>
 al R eY U) (aa R))) (aa R)) (aa R))) (aa R))) (aa R))) (aa R))) (aa R))) (aa R))) (
 (aH (some (9, 1)) (some [.str []]) 1 false [(0, (.str yI))]).wp K U (fun dO U =>
 ae K 105 [a0, dO] U (ar (fun v30 U =>
 az v30 (
 ae K 99 [a0, (.int .u8 36)] U (ar (fun iQ U =>
 ae K 102 [a0, (.str yI)] U (ar (fun fQ U =>
 ae K 102 [a0, (.str Hb)] U (ar (fun hC U =>
 ae K 169 [a0] U (ar (fun ou U =>
 (aH (some (87, 1)) (some [.aT]) 1 false [(0, ou)]).wp K U (fun v40 U =>
 ae K 103 [iQ, v40] U (ar (fun lu U =>
 ae K 102 [a0, (.str ti)] U (ar (fun iz U =>
 ae K 102 [a0, (.str Hf)] U (ar (fun u9 U =>
 ae K 278 [a0] U (ar (fun AI U =>
 (aH (some (87, 1)) (some [.aT]) 1 false [(0, AI)]).wp K U (fun v49 U =>
 ae K 103 [iQ, v49] U (ar (fun qz U =>
 ae K 102 [a0, (.str Bd)] U (ar (fun wF U =>
 ae K 169 [a0] U (ar (fun pQ U =>
 (aH (some (87, 1)) (some [.aT]) 1 false [(0, pQ)]).wp K U (fun rY U =>
 ae K 103 [iQ, rY] U (ar (fun AJ U =>
 ae K 102 [a0, (.str Be)] U (ar (fun v59 U =>
 al R iQ U) (aa R))) (aa R))) (aa R)) (aa R))) (aa R))) (aa R))) (aa R)) (aa R))) (aa R))) (aa R))) (aa R))) (aa R)) (aa R))) (aa R))) (aa R))) (aa R))) (
 ae K 109 [a0] U (ar (fun K8 U =>
 al R K8 U) (aa R)))) (aa R))) (aa R))) (aa R))) (aa R)
def KM : Prop :=
 ae K 99 [a0, (.int .u8 37)] U (ar (fun v5 U =>
 ae K 101 [a0] U (ar (fun v8 U =>
 (bh v5).wp K U (fun v9 U =>
 (af (some 0) v9).wp K U (fun v10 U =>
 (af (some 1) v10).wp K U (fun v11 U =>
 (aF aG v11 v8 U).wp K U (fun _ U =>
 al R v5 U) (aa R)) (aa R)) (aa R)) (aa R)) (aa R))) (aa R))
def Oq : Prop :=
 (ez a0).wp K U (fun v3 U =>
 gC 4 (fun v1 v2 jm v28 U =>
 az v28 (
 ae K 17 [] U (ar (fun dO U =>
 al R dO U) (aa R))) (
 (fun ay : St =>
 ai K (si (some .i64) true false false v1) (fun v31 =>
 ai K (af (some 0) jm) (fun iQ =>
 ai K (aq aG iQ ay) (fun fj =>
 ai K (bU (some false) fj) (fun fQ =>
 ai K (av .rem aL false v31 fQ) (fun gj =>
 ai K (si (some .i64) true false false v2) (fun v37 =>
 ai K (af (some 0) jm) (fun jl =>
 ai K (aq aG jl ay) (fun ou =>
 ai K (bU (some false) ou) (fun v40 =>
 ai K (av .rem aL false v37 v40) (fun lu =>
 (aq (some (true, 1)) jm U).wp K U (fun iz U =>
 ae K 26 [iz] U (ar (fun ov U =>
 ae K 44 [ov, gj] U (ar (fun v46 U =>
 (aV v46 0).wp K U (fun ow U =>
 (aV v46 1).wp K U (fun AI U =>
 (aq (some (true, 1)) jm U).wp K U (fun qz U =>
 ae K 26 [qz] U (ar (fun v51 U =>
 (dS (some (43, 6)) false .ag ow U).wp K U (fun rX U =>
 ae K 50 [v51, gj, rX] U (ar (fun pQ U =>
 (aV pQ 0).wp K U (fun rY U =>
 (aV pQ 1).wp K U (fun AJ U =>
 (aA.cj [.ag]).wp K U (fun v11 U =>
 (aF (some (true, 1)) v11 rY U).wp K U (fun _ U =>
 (av .neq aL true AI (.int .i64 0)).wp K U (fun v59 U =>
 aj K (aI v59 false) (aA.val AJ) (fun tN =>
 aj K (aI v59 false) (av .neq aL true tN (.int .i64 0)) (fun K8 =>
 (bF v59 (.bool true) K8).wp K U (fun yz U =>
 aj K (aI yz false) (aq (some (true, 1)) jm U) (fun Dg =>
 aj K (aI yz false) (aq (some (true, 1)) v11 U) (fun K9 =>
 aj K (aI yz false) (aA.enter 22 [Dg, K9]) (fun wG =>
 aj K (aI yz false) (gM .not wG) (fun Uh =>
 (bF yz (.bool true) Uh).wp K U (fun Dh U =>
 az Dh (
 al R (.bool false) U) (
 (aq (some (true, 1)) jm U).wp K U (fun Uj U =>
 ae K 26 [Uj] U (ar (fun v72 U =>
 ae K 44 [v72, lu] U (ar (fun wH U =>
 (aV wH 0).wp K U (fun v75 U =>
 (aV wH 1).wp K U (fun v76 U =>
 (av .neq aL true v76 (.int .i64 0)).wp K U (fun Pa U =>
 az Pa (
 al R (.bool false) U) (
 (aq (some (true, 1)) jm U).wp K U (fun v80 U =>
 ae K 26 [v80] U (ar (fun Pb U =>
 (dS (some (43, 6)) false .ag v75 U).wp K U (fun Uk U =>
 ae K 50 [Pb, gj, Uk] U (ar (fun v85 U =>
 (aV v85 0).wp K U (fun Ul U =>
 (aV v85 1).wp K U (fun v87 U =>
 (aA.cj [.ag]).wp K U (fun cL U =>
 (aF (some (true, 1)) cL Ul U).wp K U (fun _ U =>
 (av .neq aL true v87 (.int .i64 0)).wp K U (fun Um U =>
 az Um (
 (av .eql aL true v87 (.int .i64 4)).wp K U (fun v91 U =>
 aj K (aI v91 false) (aA.val v87) (fun v93 =>
 aj K (aI v91 false) (av .eql aL true v93 (.int .i64 5)) (fun Un =>
 (bF v91 (.bool true) Un).wp K U (fun Pd U =>
 aj K (aI Pd true) (aA.enter 17 []) (fun Uo =>
 (bF Pd Uo (.bool false)).wp K U (fun v98 U =>
 al R v98 U) (aa R))) (aa R)))) (aa R)) (
 (aq (some (true, 1)) cL U).wp K U (fun GX U =>
 ae K 26 [GX] U (ar (fun Na U =>
 ae K 44 [Na, gj] U (ar (fun GY U =>
 (aV GY 0).wp K U (fun Nb U =>
 (aV GY 1).wp K U (fun v105 U =>
 (av .neq aL true v105 (.int .i64 0)).wp K U (fun v107 U =>
 aj K (aI v107 false) (aA.val Nb) (fun v109 =>
 aj K (aI v107 false) (aA.val v75) (fun Nc =>
 aj K (aI v107 false) (aA.enter 47 [v109, Nc]) (fun Nf =>
 aj K (aI v107 false) (gM .not Nf) (fun Ng =>
 (bF v107 (.bool true) Ng).wp K U (fun nj U =>
 aj K (aI nj false) (af (some 0) cL) (fun Nh =>
 aj K (aI nj false) (aq aG Nh U) (fun Ni =>
 aj K (aI nj false) (bU (some false) Ni) (fun v117 =>
 aj K (aI nj false) (af (some 0) jm) (fun Nj =>
 aj K (aI nj false) (aq aG Nj U) (fun YY =>
 aj K (aI nj false) (bU (some false) YY) (fun Nk =>
 aj K (aI nj false) (aA.val v75) (fun Nl =>
 aj K (aI nj false) (bU (some false) Nl) (fun Nn =>
 aj K (aI nj false) (av .add aL false Nk Nn) (fun YZ =>
 aj K (aI nj false) (aA.val ow) (fun v124 =>
 aj K (aI nj false) (bU (some false) v124) (fun No =>
 aj K (aI nj false) (av .sub aL false YZ No) (fun Np =>
 aj K (aI nj false) (av .neq aL false v117 Np) (fun v127 =>
 (bF nj (.bool true) v127).wp K U (fun Nq U =>
 az Nq (
 al R (.bool false) U) (
 dQ 6 [jm, gj, ow, v75, cL, (.int .i64 0)] U fun lp zE v7 v9 cb qy df U =>
 (av .lss aL false df v7).wp K U (fun v131 U =>
 az v131 (
 (fun eg : St => ∃ B : List Nat,
 ai K (af (some 0) zE) (fun TQ =>
 (∀ b ∈ bV TQ ++ [], b ∈ B) /\
 ai K (aq aG TQ eg) (fun Nr =>
 ai K (aP (some (43, 6)) none Nr df) (fun GZ =>
 (∀ b ∈ bV GZ ++ [], b ∈ B) /\
 ai K (aq (some (true, 6)) GZ eg) (fun v138 =>
 ai K (af (some 0) qy) (fun v139 =>
 (∀ b ∈ bV v139 ++ [], b ∈ B) /\
 ai K (aq aG v139 eg) (fun Y3 =>
 ai K (aP (some (43, 6)) none Y3 df) (fun TY =>
 (∀ b ∈ bV TY ++ [], b ∈ B) /\
 ai K (aq (some (true, 6)) TY eg) (fun v143 =>
 (
 (aA.cj [.int .u8 0, .str [], .int .i64 0, .int .i64 0, .int .i64 0, .int .i64 0]).wp K U (fun ck U => bG B eg U /\
 (aA.cj [.int .u8 0, .str [], .int .i64 0, .int .i64 0, .int .i64 0, .int .i64 0]).wp K U (fun di U => bG B eg U /\
 (aF (some (true, 6)) ck v138 U).wp K U (fun _ U => bG (B) eg U /\
 (aF (some (true, 6)) di v143 U).wp K U (fun _ U =>
 gC 8 (fun Nx jL jn nX G0 G1 G2 G3 U =>
 (aq (some (true, 6)) G2 U).wp K U (fun v152 U =>
 (aq (some (true, 6)) G3 U).wp K U (fun Nw U =>
 (av .neq (BT.mk false false false (some [.i, .s, .i, .i, .i, .i]) false) false v152 Nw).wp K U (fun v154 U =>
 az v154 (
 al R (.bool false) U) (
 (av .add aL true G1 (.int .i64 1)).wp K U (fun ra U =>
 lp Nx jL jn nX G0 ra U) (aa R))) (aa R)) (aa R)) (aa R)) fun uB =>
 (af (some 5) ck).wp K U (fun v145 U =>
 (aq aG v145 U).wp K U (fun v146 U =>
 (av .add aL false df v146).wp K U (fun Ns U =>
 (av .gtr aL false Ns v7).wp K U (fun Nt U =>
 az Nt (
 (af (some 5) ck).wp K U (fun Nu U =>
 (aF aG Nu (.int .i64 0) U).wp K U (fun _ U =>
 (af (some 5) di).wp K U (fun Nv U =>
 (aF aG Nv (.int .i64 0) U).wp K U (fun _ U =>
 uB zE v7 v9 cb qy df ck di U) (aa R)) (aa R)) (aa R)) (aa R)) (
 uB zE v7 v9 cb qy df ck di U)) (aa R)) (aa R)) (aa R)) (aa R)) (aa R)) (aa R)) (aa R)) (aa R)) /\ (
 (aA.cj [.int .u8 0, .str [], .int .i64 0, .int .i64 0, .int .i64 0, .int .i64 0]).wp K U (fun Bc U => bG B eg U /\
 (aA.cj [.int .u8 0, .str [], .int .i64 0, .int .i64 0, .int .i64 0, .int .i64 0]).wp K U (fun yx U => bG B eg U /\
 (aF (some (true, 6)) yx v138 U).wp K U (fun _ U => bG (B) eg U /\
 (aF (some (true, 6)) Bc v143 U).wp K U (fun _ U =>
 gC 8 (fun Za Nz Zb tg VV VW VX VY U =>
 (aq (some (true, 6)) VX U).wp K U (fun Ub U =>
 (aq (some (true, 6)) VY U).wp K U (fun Uc U =>
 (av .neq (BT.mk false false false (some [.i, .s, .i, .i, .i, .i]) false) false Ub Uc).wp K U (fun Ud U =>
 az Ud (
 al R (.bool false) U) (
 (av .add aL true VW (.int .i64 1)).wp K U (fun ot U =>
 lp Za Nz Zb tg VV ot U) (aa R))) (aa R)) (aa R)) (aa R)) fun Xb =>
 (af (some 5) yx).wp K U (fun TZ U =>
 (aq aG TZ U).wp K U (fun T0 U =>
 (av .add aL false df T0).wp K U (fun T1 U =>
 (av .gtr aL false T1 v7).wp K U (fun T4 U =>
 az T4 (
 (af (some 5) yx).wp K U (fun T9 U =>
 (aF aG T9 (.int .i64 0) U).wp K U (fun _ U =>
 (af (some 5) Bc).wp K U (fun Ua U =>
 (aF aG Ua (.int .i64 0) U).wp K U (fun _ U =>
 Xb zE v7 v9 cb qy df yx Bc U) (aa R)) (aa R)) (aa R)) (aa R)) (
 Xb zE v7 v9 cb qy df yx Bc U)) (aa R)) (aa R)) (aa R)) (aa R)) (aa R)) (aa R)) (aa R)) (aa R))))))))))) U) (
 (fun vM : St =>
 ai K (af (some 0) zE) (fun Y4 =>
 ai K (aq aG Y4 vM) (fun Y5 =>
 ai K (bU (some false) v9) (fun v159 =>
 ai K (av .add aL false v7 v159) (fun v160 =>
 ai K (dh false (some (43, 6)) Y5 (some v160) none) (fun Y6 =>
 ai K (af (some 0) qy) (fun v162 =>
 ai K (aq aG v162 vM) (fun Y7 =>
 ai K (bU (some false) cb) (fun Y8 =>
 ai K (av .add aL false v7 Y8) (fun v167 =>
 ai K (dh false (some (43, 6)) Y7 (some v167) none) (fun v168 =>
 ai K (aA.enter 47 [Y6, v168]) (fun Ue =>
 aj K (aI Ue true) (aA.enter 17 []) (fun v171 =>
 ai K (bF Ue v171 (.bool false)) (fun Y9 =>
 al R Y9 U)))))))))))))) U)) (aa R))) (aa R))))))))))))))) (aa R)))))) (aa R)) (aa R)) (aa R)) (aa R))) (aa R))) (aa R))) (aa R)) (aa R)) (aa R)) (aa R)) (aa R)) (aa R))) (aa R)) (aa R))) (aa R))) (aa R)) (aa R)) (aa R)) (aa R))) (aa R))) (aa R))) (aa R)))))) (aa R)))) (aa R)) (aa R)) (aa R)) (aa R)) (aa R)) (aa R))) (aa R)) (aa R))) (aa R)) (aa R)) (aa R)) (aa R))) (aa R))) (aa R)))))))))))) U)) fun j =>
 (aq (some (true, 1)) v3 U).wp K U (fun v20 U =>
 ae K 24 [v20] U (ar (fun v21 U =>
 (gM .not v21).wp K U (fun de U =>
 aj K (aI de false) (aq (some (true, 1)) v3 U) (fun v24 =>
 az (aI de false) (
 ae K 26 [v24] U (ar (fun dW U =>
 az (aI de false) (
 ae K 30 [dW] U (ar (fun eY U =>
 aj K (aI de false) (av .neq aL true eY (.int .i64 0)) (fun dB =>
 (bF de (.bool true) dB).wp K U (fun V6 U =>
 j a1 a2 v3 V6 U) (aa R))) (aa R))) (
 aj K (aI de false) (av .neq aL true (.aN []) (.int .i64 0)) (fun VZ =>
 (bF de (.bool true) VZ).wp K U (fun V7 U =>
 j a1 a2 v3 V7 U) (aa R)))) (aa R))) (
 az (aI de false) (
 ae K 30 [(.aN [])] U (ar (fun th U =>
 aj K (aI de false) (av .neq aL true th (.int .i64 0)) (fun V4 =>
 (bF de (.bool true) V4).wp K U (fun V8 U =>
 j a1 a2 v3 V8 U) (aa R))) (aa R))) (
 aj K (aI de false) (av .neq aL true (.aN []) (.int .i64 0)) (fun V5 =>
 (bF de (.bool true) V5).wp K U (fun V9 U =>
 j a1 a2 v3 V9 U) (aa R)))))) (aa R)) (aa R))) (aa R)) (aa R)
end
section
variable {a0 a1 a2 a3 a4 a5 a6 : AV} {R : cu -> St -> Prop} {U : St}
theorem JL (h : JK a0 a1 a2 a3 R U) : ae K 155 [a0, a1, a2, a3] U R := bO Tryz.f155 QO h
theorem JN (h : JM a0 a1 R U) : ae K 157 [a0, a1] U R := bO Tryz.f157 QP h
theorem JP (h : JO a0 R U) : ae K 158 [a0] U R := bO Tryz.f158 QR h
theorem JR (h : JQ a0 R U) : ae K 159 [a0] U R := bO Tryz.f159 QS h
theorem JT (h : JS a0 R U) : ae K 160 [a0] U R := bO Tryz.f160 QT h
theorem JV (h : JU a0 R U) : ae K 161 [a0] U R := bO Tryz.f161 QU h
theorem JX (h : JW a0 R U) : ae K 162 [a0] U R := bO Tryz.f162 QV h
theorem JZ (h : JY a0 R U) : ae K 163 [a0] U R := bO Tryz.f163 QW h
theorem J1 (h : J0 a0 R U) : ae K 164 [a0] U R := bO Tryz.f164 QX h
theorem J2 (h : To a0 a1 R U) : ae K 165 [a0, a1] U R := bO Tryz.f165 QY h
theorem J3 (h : Tp a0 R U) : ae K 166 [a0] U R := bO Tryz.f166 QZ h
theorem J5 (h : J4 a0 a1 R U) : ae K 167 [a0, a1] U R := bO Tryz.f167 Q0 h
theorem J6 (h : Tq a0 R U) : ae K 168 [a0] U R := bO Tryz.f168 Q1 h
theorem J8 (h : J7 a0 R U) : ae K 169 [a0] U R := bO Tryz.f169 Q2 h
theorem J9 (h : Tr a0 a1 R U) : ae K 178 [a0, a1] U R := bO Tryz.f178 Q3 h
theorem Kb (h : Ka a0 R U) : ae K 179 [a0] U R := bO Tryz.f179 Q4 h
theorem Kd (h : Kc a0 R U) : ae K 181 [a0] U R := bO Tryz.f181 Q5 h
theorem Kg (h : Kf a0 R U) : ae K 185 [a0] U R := bO Tryz.f185 Q6 h
theorem Ki (h : Kh a0 R U) : ae K 206 [a0] U R := bO Tryz.f206 Q7 h
theorem Kk (h : Kj a0 R U) : ae K 207 [a0] U R := bO Tryz.f207 Q8 h
theorem Km (h : Kl a0 R U) : ae K 208 [a0] U R := bO Tryz.f208 Q9 h
theorem Kq (h : Ko a0 a1 R U) : ae K 209 [a0, a1] U R := bO Tryz.f209 Ra h
theorem AE (h : C2 a0 a1 R U) : ae K 210 [a0, a1] U R := bO Tryz.f210 Rb h
theorem AF (h : Ts a0 a1 R U) : ae K 212 [a0, a1] U R := bO Tryz.f212 Rc h
theorem Ks (h : Tt a0 a1 R U) : ae K 215 [a0, a1] U R := bO Tryz.f215 Rd h
theorem Ku (h : Kt a0 R U) : ae K 216 [a0] U R := bO Tryz.f216 Re h
theorem Kw (h : Kv a0 a1 R U) : ae K 219 [a0, a1] U R := bO Tryz.f219 Rf h
theorem Ky (h : Kx a0 a1 R U) : ae K 230 [a0, a1] U R := bO Tryz.f230 Rh h
theorem KA (h : Kz a0 a1 R U) : ae K 236 [a0, a1] U R := bO Tryz.f236 Ri h
theorem KD (h : KB a0 a1 R U) : ae K 242 [a0, a1] U R := bO Tryz.f242 Rj h
theorem KF (h : KE a0 a1 R U) : ae K 246 [a0, a1] U R := bO Tryz.f246 Rk h
theorem KH (h : KG a0 R U) : ae K 252 [a0] U R := bO Tryz.f252 Rl h
theorem KJ (h : KI a0 R U) : ae K 253 [a0] U R := bO Tryz.f253 Rm h
theorem KL (h : KK a0 R U) : ae K 269 [a0] U R := bO Tryz.f269 Rp h
theorem KN (h : KM a0 R U) : ae K 278 [a0] U R := bO Tryz.f278 Rq h
theorem Mx (h : Oq a0 a1 a2 R U) : ae K 15 [a0, a1, a2] U R := bO Tryz.f15 UF h
end
end Go.Rip
