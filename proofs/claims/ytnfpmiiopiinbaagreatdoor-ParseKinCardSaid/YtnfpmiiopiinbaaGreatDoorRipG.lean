/- Lemmas for the proof: no conditions. -/
import Derived.Test.YtnfpmiiopiinbaaGreatDoorRipZz
import Derived.Test.YtnfpmiiopiinbaaGreatDoorRipD
set_option linter.unusedVariables false
set_option linter.unusedSimpArgs false
set_option linter.loopingSimpArgs false
set_option maxRecDepth 100000
namespace Go.Rip
open Go.Proofs
def Pc : An := ai (aS (ai (.bk (.rf eI (.bk eI)))) (ai .z))
def Pd : An := ai (.bk (.lp [0, 2, 3, 5] (aS (ai (.cd .z .z)) (aS (.bk (ai (.cd .z .z))) eI))))
def Pe : An := ai (ai (aS (ai (.bk (.lp [0, 3, 8, 9, 10] (ai (aS (.cd .z .z) (aS (.bk (ai (ai eI))) eI)))))) (ai .z)))
def Pf : An := ai (ai (aS (ai (.bk (.lp [0, 3, 8, 9, 10] (ai (aS (.cd .z .z) (aS (.bk (ai (ai eI))) eI)))))) (ai .z)))
def Pg : An := ai (ai (ai (ai (ai (ai (ai (ai (ai (ai .z)))))))))
def Ph : An := ai (ai (ai (ai (ai (ai (ai (ai .z)))))))
def Pj : An := ai (ai (ai (ai (ai (ai .z)))))
def Pk : An := ai (ai (ai (ai (ai (ai (ai (ai .z)))))))
def Pm : An := ai (aS (aS (.rg [] [] (some ⟨[(true, 0), (true, 1), (true, 2), (true, 3), (true, 4), (true, 5), (true, 6), (true, 7), (true, 8), (true, 9)], [⟨8, 1, 0⟩, ⟨16, 8, 1⟩, ⟨32, 16, 2⟩, ⟨64, 32, 4⟩, ⟨128, 1, 0⟩, ⟨256, 128, 16⟩, ⟨512, 256, 32⟩, ⟨1024, 512, 64⟩, ⟨2048, 1024, 128⟩, ⟨4096, 2112, 264⟩]⟩)) (.cd (aS (.rg [] [] (some ⟨[(true, 0), (true, 1), (true, 2), (true, 3), (true, 4), (true, 5), (true, 6), (true, 7), (true, 8), (true, 9), (true, 10), (true, 11)], [⟨8192, 1, 0⟩, ⟨16384, 8192, 1⟩, ⟨32768, 16384, 2⟩, ⟨65536, 32768, 4⟩, ⟨131072, 1, 0⟩, ⟨262144, 131072, 16⟩, ⟨524288, 262144, 32⟩, ⟨1048576, 524288, 64⟩, ⟨2097152, 1114112, 136⟩, ⟨4194304, 2097152, 256⟩, ⟨8388608, 4194304, 512⟩, ⟨4, 8388608, 2047⟩]⟩)) .z) .z)) (ai .z))
def Pn : An := ai (ai (.sq (some [0, 5]) (ai (.cd eI .z)) (ai (ai .z))))
def Po : An := eI
def Pp : An := ai (aS (aS (.rg [] [] (some ⟨[(true, 0), (true, 1), (true, 2), (true, 3), (true, 4), (true, 5), (true, 6), (true, 7), (true, 8), (true, 9), (true, 10), (true, 11)], [⟨32, 1, 0⟩, ⟨64, 32, 1⟩, ⟨128, 64, 2⟩, ⟨256, 128, 4⟩, ⟨512, 2, 0⟩, ⟨1024, 768, 24⟩, ⟨2048, 1, 0⟩, ⟨4096, 2048, 64⟩, ⟨8192, 4096, 128⟩, ⟨16384, 8192, 256⟩, ⟨32768, 16384, 512⟩, ⟨65536, 33792, 1056⟩]⟩)) (.cd (aS (.rg [] [] (some ⟨[(true, 0), (true, 1), (true, 2), (true, 3), (true, 4), (true, 5), (true, 6), (true, 7), (true, 8), (true, 9), (true, 10), (true, 11), (false, 12)], [⟨131072, 1, 0⟩, ⟨262144, 131072, 1⟩, ⟨524288, 262144, 2⟩, ⟨1048576, 524288, 4⟩, ⟨2097152, 1, 0⟩, ⟨4194304, 2097152, 16⟩, ⟨8388608, 4194304, 32⟩, ⟨16777216, 8388608, 64⟩, ⟨33554432, 2, 0⟩, ⟨67108864, 50331648, 384⟩, ⟨134217728, 68157440, 520⟩, ⟨268435456, 134217728, 1024⟩, ⟨0, 268435472, 4095⟩]⟩)) .z) .z)) (ai .z))
def Pq : An := ai (ai (.sq (some [3]) (ai (.cd eI .z)) (ai .z)))
def Pr : An := ai (ai (aS (aS (.rg [] [] (some ⟨[(true, 0), (true, 1), (true, 2), (true, 3), (true, 4), (true, 5), (true, 6), (true, 7), (true, 8), (true, 9), (true, 10), (true, 11)], [⟨1024, 1, 0⟩, ⟨2048, 1024, 1⟩, ⟨4096, 2048, 2⟩, ⟨8192, 4096, 4⟩, ⟨16384, 8, 0⟩, ⟨32768, 16384, 16⟩, ⟨65536, 40960, 40⟩, ⟨512, 65536, 64⟩, ⟨131072, 512, 128⟩, ⟨262144, 512, 128⟩, ⟨16, 131072, 511⟩, ⟨32, 262144, 2047⟩]⟩)) (ai (.cd (ai .z) .z))) (aS (.sq (some [0, 36]) (.rg [] [121] none) (.cd (ai (ai (ai (ai .z)))) .z)) (ai .z))))
def Ps : An := ai (ai .z)
def Pt : An := ai (ai .z)
def Pu : An := ai (ai .z)
def Pv : An := ai (ai .z)
def Pw : An := ai (ai .z)
def Px : An := ai (ai .z)
def Py : An := ai (ai (ai .z))
def Pz : An := ai (aS (ai (.bk (.lp [0, 1, 11, 12, 13] (ai (aS (.cd .z .z) (aS (.bk (ai (ai (aS (ai (.bk (.lp [0, 1, 6, 7, 11, 12, 13, 21, 22, 23] (ai (aS (.cd .z .z) (aS (.bk (ai eI)) eI)))))) (ai (aS (.bk (.lp [0, 1, 6, 7, 10, 11, 12, 13] (aS (.sq (some [0, 1, 6, 7, 10, 11, 12, 13, 52]) (.rg [] [] (some ⟨[(true, 0), (true, 1), (true, 2), (true, 3), (true, 4), (true, 5), (true, 6), (true, 7), (true, 8), (true, 9), (true, 10), (true, 11), (true, 12), (true, 13), (true, 14), (true, 15), (true, 16), (true, 17), (true, 18), (false, 19), (true, 20)], [⟨4294967296, 1024, 0⟩, ⟨8589934592, 1, 0⟩, ⟨17179869184, 8589934592, 2⟩, ⟨34359738368, 128, 0⟩, ⟨68719476736, 51539607552, 12⟩, ⟨137438953472, 73014444032, 17⟩, ⟨274877906944, 137438953472, 32⟩, ⟨549755813888, 274877907968, 64⟩, ⟨1099511627776, 274877907008, 64⟩, ⟨2199023255552, 1374389534720, 320⟩, ⟨4398046511104, 3023656976384, 704⟩, ⟨8796093022208, 4672924418048, 1088⟩, ⟨17592186044416, 8796093022208, 2112⟩, ⟨35184372088832, 17592186044480, 4096⟩, ⟨70368744177664, 52776558133248, 12288⟩, ⟨140737488355328, 17592186044417, 4096⟩, ⟨281474976710656, 17592186045440, 4096⟩, ⟨562949953421312, 439804651110400, 102400⟩, ⟨1125899906842624, 580542139465728, 135168⟩, ⟨2251799813685248, 1213860837064704, 282624⟩, ⟨4503599627370496, 2269391999729664, 528384⟩]⟩)) (.cd .z .z)) (.bk eI)))) (aS (ai (.cd (ai .z) .z)) eI))))))) eI)))))) (ai .z))
def PA : An := ai (aS (ai (.bk (.lp [0, 1, 7, 8] (ai (aS (.cd .z .z) (aS (.bk (ai (ai (.cd (ai .z) .z)))) eI)))))) (ai .z))
def PB : An := ai (aS (ai (ai (.cd (aS (.rg [] [] (some ⟨[(true, 0), (true, 1), (true, 2), (true, 3), (true, 4), (true, 5), (true, 6), (true, 7), (true, 8), (true, 9), (true, 10), (true, 11)], [⟨8192, 1, 0⟩, ⟨16384, 128, 0⟩, ⟨32768, 24576, 3⟩, ⟨65536, 1, 0⟩, ⟨131072, 128, 0⟩, ⟨262144, 2, 0⟩, ⟨524288, 262144, 32⟩, ⟨1048576, 655360, 80⟩, ⟨2097152, 1114112, 136⟩, ⟨16, 32768, 7⟩, ⟨32, 2097152, 1023⟩, ⟨64, 0, 2047⟩]⟩)) .z) .z))) (ai .z))
def PC : An := ai (ai .z)
def PD : An := ai (aS (.bk (ai (.cd (ai .z) (ai (.cd (ai .z) (ai (.cd (ai .z) (ai (.cd (ai .z) (ai (.cd (ai .z) .z))))))))))) (ai .z))
def PE : An := ai (aS (ai (.bk (ai (.cd (ai .z) (ai (.cd (aS (ai (ai (.cd (ai .z) .z))) (ai .z)) .z)))))) (ai (.bk (.lp [0, 1, 6] (.bk (aS (.rg [] [] (some ⟨[(true, 0), (true, 1), (true, 2), (true, 3), (true, 4), (true, 5), (true, 6), (false, 7), (true, 8), (true, 9), (true, 10), (true, 11), (true, 12), (true, 13)], [⟨34359738368, 1, 0⟩, ⟨68719476736, 34359738368, 1⟩, ⟨137438953472, 68719476736, 2⟩, ⟨274877906944, 137438953472, 4⟩, ⟨549755813888, 2, 0⟩, ⟨1099511627776, 824633720832, 24⟩, ⟨2199023255552, 1, 0⟩, ⟨4398046511104, 2199023255552, 64⟩, ⟨8796093022208, 5497558138880, 160⟩, ⟨17179869184, 8796093022208, 256⟩, ⟨17592186044416, 17179869184, 512⟩, ⟨35184372088832, 17179869184, 512⟩, ⟨128, 17592186044416, 2047⟩, ⟨256, 35184372088832, 8191⟩]⟩)) (aS (ai (.cd (ai .z) .z)) (ai (ai (aS (ai (.cd (ai (ai .z)) .z)) (ai (ai (.cd (ai .z) .z)))))))))))))
def PF : An := ai (aS (ai (.bk (.lp [0, 1, 7, 8] (ai (aS (.cd .z .z) (aS (.bk (ai (ai (.cd (ai .z) .z)))) eI)))))) (ai .z))
def PG : An := ai (aS (ai (.bk (.lp [1, 13] (ai (aS (.cd .z .z) (.bk (ai (ai (.bk (.lp [1, 5, 13, 20] (ai (aS (.cd .z .z) (.bk (ai (ai (.cd (ai .z) .z)))))))))))))))) (aS (.bk (ai (.cd (ai .z) (ai (.cd (ai .z) (ai (.cd (ai .z) .z))))))) (ai .z)))
def PH : An := ai (ai .z)
def PI : An := ai (aS (ai (.bk (.lp [0, 1, 7, 8] (ai (aS (.cd .z .z) (aS (.bk (ai (ai (.cd (ai .z) .z)))) eI)))))) (ai .z))
def PJ : An := ai (ai (aS (ai (ai (.cd (ai (ai (.sq (some [6]) (ai (.cd eI .z)) (ai .z)))) .z))) (aS (ai (.cd (ai (ai (ai .z))) .z)) (aS (ai (.cd (ai (ai (ai .z))) .z)) (ai (ai (.sq (some [9]) (ai (.cd (ai (ai eI)) .z)) (ai .z))))))))
def PK : An := ai (aS (ai (ai (.cd (ai .z) .z))) (ai .z))
def PL : An := ai (aS (.bk (ai (.cd (ai (ai (ai (ai (ai (ai .z)))))) (ai (.cd (ai (ai (ai (ai (ai (ai (ai (ai (ai (ai (ai .z))))))))))) .z))))) (ai .z))
def PM : An := ai (ai (ai (ai .z)))
section
variable (a0 a1 a2 a3 a4 a5 a6 : AV) (R : cm -> St -> Prop) (U : St)
def Ik : Prop :=
 (eB a0).wp K U (fun v2 U =>
 oZ K 1 a1 U (fun v7 q U =>
 q.Bw (fun U =>
 (ao aE v2 U).wp K U (fun v8 U =>
 (aD (some (3, 1)) (some [.int .i64 0]) 1 false [(0, v7)]).wp K U (fun v10 U =>
 (eN (some (3, 1)) false v8 v10 U).wp K U (fun v11 U =>
 (aM aE v2 v11 U).wp K U (fun _ U =>
 q.n U) (fun _ _ => False)) (fun _ _ => False)) (fun _ _ => False)) (fun _ _ => False)) U) (fun U =>
 (ao aE v2 U).wp K U (fun v12 U =>
 aj R v12 U) (aa R)) (fun i U =>
 Dc (Nat.beq i 0) (
 (ao aE v2 U).wp K U (fun zZ U =>
 aj R zZ U) (aa R)) (
 False)) (fun U =>
 aj R .aq U) (fun x U => (aa R) x U)) (aa R)
def Im : Prop :=
 (ao aE a1 U).wp K U (fun v6 U =>
 (aw .add aO true v6 (.int .i64 1)).wp K U (fun v7 U =>
 dQ 4 [a0, a2, a3, v7] U fun lp v0 v2 v3 v5 U =>
 (ao aE v2 U).wp K U (fun v9 U =>
 (aw .lss aO false v5 v9).wp K U (fun v10 U =>
 ah K (aF v10 true) (af (some 0) v3) (fun v12 =>
 ah K (aF v10 true) (af (some 0) v12) (fun cB =>
 ah K (aF v10 true) (ao aE cB U) (fun df =>
 ah K (aF v10 true) (aA.val v5) (fun cM =>
 ah K (aF v10 true) (aJ (some (43, 6)) none df cM) (fun dA =>
 ah K (aF v10 true) (af (some 5) dA) (fun dK =>
 ah K (aF v10 true) (ao aE dK U) (fun cz =>
 ah K (aF v10 true) (aw .gtr aO true cz (.int .i64 0)) (fun dE =>
 (bu v10 dE (.bool false)).wp K U (fun v20 U =>
 ay v20 (
 (eT K.P v0 [v5]).wp K U (fun jP U =>
 (gL .not jP).wp K U (fun fD U =>
 ay fD (
 aj R (.aL []) U) (
 (af (some 0) v3).wp K U (fun dW U =>
 (af (some 0) dW).wp K U (fun ey U =>
 (ao aE ey U).wp K U (fun v24 U =>
 (aJ (some (43, 6)) none v24 v5).wp K U (fun fV U =>
 (af (some 5) fV).wp K U (fun dX U =>
 (ao aE dX U).wp K U (fun v28 U =>
 (aw .add aO false v5 v28).wp K U (fun dS U =>
 lp v0 v2 v3 dS U) (aa R)) (aa R)) (aa R)) (aa R)) (aa R)) (aa R)) (aa R))) (aa R)) (aa R)) (
 aj R (.aL []) U)) (aa R)))))))))) (aa R)) (aa R)) (aa R)) (aa R)
def Ip : Prop :=
 ae K 99 [a0, (.int .u8 10)] U (al (fun v7 U =>
 (aD (some (9, 1)) (some [.str []]) 3 false [(0, (.str yG)), (1, (.str ue)), (2, (.str kf))]).wp K U (fun v8 U =>
 (bZ (some false) v8).wp K U (fun v9 U =>
 dQ 5 [a0, v7, v8, v9, (.int .i64 0)] U fun lp v0 v3 o6 mH v10 U =>
 (aw .lss aO false v10 mH).wp K U (fun v11 U =>
 ay v11 (
 (aJ (some (9, 1)) none o6 v10).wp K U (fun v12 U =>
 (ao aE v12 U).wp K U (fun cB U =>
 ae K 102 [v0, cB] U (al (fun dA U =>
 ae K 169 [v0] U (al (fun dE U =>
 (aD (some (87, 1)) (some [.aR]) 1 false [(0, dE)]).wp K U (fun v20 U =>
 ae K 103 [v3, v20] U (al (fun v21 U =>
 (aw .add aO true v10 (.int .i64 1)).wp K U (fun dW U =>
 lp v0 v3 o6 mH dW U) (aa R)) (aa R))) (aa R)) (aa R))) (aa R))) (aa R)) (aa R)) (
 aj R v3 U)) (aa R)) (aa R)) (aa R)) (aa R))
def Ir : Prop :=
 ae K 99 [a0, (.int .u8 11)] U (al (fun v7 U =>
 (aD (some (9, 1)) (some [.str []]) 2 false [(0, (.str ov)), (1, (.str Cg))]).wp K U (fun v8 U =>
 (bZ (some false) v8).wp K U (fun v9 U =>
 dQ 5 [a0, v7, v8, v9, (.int .i64 0)] U fun lp v0 v3 o6 mH v10 U =>
 (aw .lss aO false v10 mH).wp K U (fun v11 U =>
 ay v11 (
 (aJ (some (9, 1)) none o6 v10).wp K U (fun v12 U =>
 (ao aE v12 U).wp K U (fun cB U =>
 ae K 102 [v0, cB] U (al (fun dA U =>
 ae K 169 [v0] U (al (fun dE U =>
 (aD (some (87, 1)) (some [.aR]) 1 false [(0, dE)]).wp K U (fun v20 U =>
 ae K 103 [v3, v20] U (al (fun v21 U =>
 (aw .add aO true v10 (.int .i64 1)).wp K U (fun dW U =>
 lp v0 v3 o6 mH dW U) (aa R)) (aa R))) (aa R)) (aa R))) (aa R))) (aa R)) (aa R)) (
 aj R v3 U)) (aa R)) (aa R)) (aa R)) (aa R))
def It : Prop :=
 ae K 99 [a0, (.int .u8 12)] U (al (fun v5 U =>
 ae K 102 [a0, (.str xH)] U (al (fun v7 U =>
 ae K 101 [a0] U (al (fun v10 U =>
 (a8 v5).wp K U (fun v11 U =>
 (af (some 0) v11).wp K U (fun v12 U =>
 (af (some 1) v12).wp K U (fun cB U =>
 (aM aE cB v10 U).wp K U (fun _ U =>
 ae K 102 [a0, (.str xC)] U (al (fun cM U =>
 ae K 168 [a0] U (al (fun cz U =>
 (a8 v5).wp K U (fun dE U =>
 (af (some 0) dE).wp K U (fun v20 U =>
 (af (some 2) v20).wp K U (fun v21 U =>
 (aM aE v21 cz U).wp K U (fun _ U =>
 ae K 102 [a0, (.str cw)] U (al (fun ey U =>
 ae K 168 [a0] U (al (fun fV U =>
 (a8 v5).wp K U (fun dX U =>
 (af (some 0) dX).wp K U (fun v28 U =>
 (af (some 3) v28).wp K U (fun dS U =>
 (aM aE dS fV U).wp K U (fun _ U =>
 ae K 102 [a0, (.str qm)] U (al (fun v31 U =>
 ae K 169 [a0] U (al (fun gY U =>
 (aD (some (87, 1)) (some [.aR]) 1 false [(0, gY)]).wp K U (fun gZ U =>
 ae K 103 [v5, gZ] U (al (fun gH U =>
 aj R gH U) (aa R))) (aa R)) (aa R))) (aa R))) (aa R)) (aa R)) (aa R)) (aa R)) (aa R))) (aa R))) (aa R)) (aa R)) (aa R)) (aa R)) (aa R))) (aa R))) (aa R)) (aa R)) (aa R)) (aa R)) (aa R))) (aa R))) (aa R))
def Iv : Prop :=
 ae K 99 [a0, (.int .u8 13)] U (al (fun v5 U =>
 ae K 102 [a0, (.str qX)] U (al (fun v7 U =>
 ae K 101 [a0] U (al (fun v10 U =>
 (a8 v5).wp K U (fun v11 U =>
 (af (some 0) v11).wp K U (fun v12 U =>
 (af (some 1) v12).wp K U (fun cB U =>
 (aM aE cB v10 U).wp K U (fun _ U =>
 ae K 102 [a0, (.str qm)] U (al (fun cM U =>
 ae K 169 [a0] U (al (fun cz U =>
 (aD (some (87, 1)) (some [.aR]) 1 false [(0, cz)]).wp K U (fun dE U =>
 ae K 103 [v5, dE] U (al (fun v20 U =>
 ae K 102 [a0, (.str kf)] U (al (fun dW U =>
 ae K 169 [a0] U (al (fun fj U =>
 (aD (some (87, 1)) (some [.aR]) 1 false [(0, fj)]).wp K U (fun fV U =>
 ae K 103 [v5, fV] U (al (fun dX U =>
 aj R dX U) (aa R))) (aa R)) (aa R))) (aa R))) (aa R))) (aa R)) (aa R))) (aa R))) (aa R)) (aa R)) (aa R)) (aa R)) (aa R))) (aa R))) (aa R))
def Iy : Prop :=
 ae K 99 [a0, (.int .u8 15)] U (al (fun v5 U =>
 ae K 102 [a0, (.str o7)] U (al (fun v7 U =>
 ae K 169 [a0] U (al (fun v10 U =>
 (aD (some (87, 1)) (some [.aR]) 1 false [(0, v10)]).wp K U (fun v11 U =>
 ae K 103 [v5, v11] U (al (fun v12 U =>
 ae K 102 [a0, (.str kf)] U (al (fun df U =>
 ae K 169 [a0] U (al (fun dK U =>
 (aD (some (87, 1)) (some [.aR]) 1 false [(0, dK)]).wp K U (fun cz U =>
 ae K 103 [v5, cz] U (al (fun dE U =>
 aj R dE U) (aa R))) (aa R)) (aa R))) (aa R))) (aa R))) (aa R)) (aa R))) (aa R))) (aa R))
def IA : Prop :=
 ae K 99 [a0, (.int .u8 14)] U (al (fun v5 U =>
 ae K 102 [a0, (.str o9)] U (al (fun v7 U =>
 ae K 101 [a0] U (al (fun v10 U =>
 (a8 v5).wp K U (fun v11 U =>
 (af (some 0) v11).wp K U (fun v12 U =>
 (af (some 1) v12).wp K U (fun cB U =>
 (aM aE cB v10 U).wp K U (fun _ U =>
 ae K 102 [a0, (.str cw)] U (al (fun cM U =>
 ae K 168 [a0] U (al (fun cz U =>
 (a8 v5).wp K U (fun dE U =>
 (af (some 0) dE).wp K U (fun v20 U =>
 (af (some 2) v20).wp K U (fun v21 U =>
 (aM aE v21 cz U).wp K U (fun _ U =>
 ae K 102 [a0, (.str qm)] U (al (fun ey U =>
 ae K 169 [a0] U (al (fun fV U =>
 (aD (some (87, 1)) (some [.aR]) 1 false [(0, fV)]).wp K U (fun dX U =>
 ae K 103 [v5, dX] U (al (fun v28 U =>
 aj R v28 U) (aa R))) (aa R)) (aa R))) (aa R))) (aa R)) (aa R)) (aa R)) (aa R)) (aa R))) (aa R))) (aa R)) (aa R)) (aa R)) (aa R)) (aa R))) (aa R))) (aa R))
def IC : Prop :=
 (fun az : St =>
 av K (a8 a0) (fun v4 =>
 av K (af (some 1) v4) (fun v5 =>
 av K (ao aE v5 az) (fun v6 =>
 av K (a8 a0) (fun v8 =>
 av K (af (some 0) v8) (fun v9 =>
 av K (ao aE v9 az) (fun v10 =>
 av K (bZ (some false) v10) (fun v11 =>
 av K (aw .lss aO false v6 v11) (fun v12 =>
 ay v12 (
 (fun hP : St =>
 av K (a8 a0) (fun df =>
 av K (af (some 0) df) (fun cM =>
 av K (ao aE cM hP) (fun dA =>
 av K (a8 a0) (fun cz =>
 av K (af (some 1) cz) (fun dE =>
 av K (ao aE dE hP) (fun v20 =>
 av K (aJ (some (51, 3)) none dA v20) (fun v21 =>
 av K (af (some 2) v21) (fun dW =>
 av K (ao aE dW hP) (fun ey =>
 aj R ey U)))))))))) U) (
 (a8 a0).wp K U (fun fj U =>
 (af (some 2) fj).wp K U (fun fV U =>
 (ao aE fV U).wp K U (fun dX U =>
 aj R dX U) (aa R)) (aa R)) (aa R))))))))))) U
def RE : Prop :=
 ae K 167 [a0, (.int .i64 0)] U (al (fun v7 U =>
 (aA.cN [.int .u8 0, .str [], .int .i64 0]).wp K U (fun v5 U =>
 (aM (some (true, 3)) v5 v7 U).wp K U (fun _ U =>
 ko 2 (fun v0 L5 U =>
 (a8 v0).wp K U (fun cM U =>
 (af (some 1) cM).wp K U (fun dA U =>
 (ao aE dA U).wp K U (fun dK U =>
 (aw .add aO true dK (.int .i64 1)).wp K U (fun cz U =>
 (a8 v0).wp K U (fun dE U =>
 (af (some 1) dE).wp K U (fun v20 U =>
 (aM aE v20 cz U).wp K U (fun _ U =>
 (af (some 1) L5).wp K U (fun v21 U =>
 (ao aE v21 U).wp K U (fun dW U =>
 aj R dW U) (aa R)) (aa R)) (aa R)) (aa R)) (aa R)) (aa R)) (aa R)) (aa R)) (aa R)) fun j =>
 (af (some 0) v5).wp K U (fun v8 U =>
 (ao aE v8 U).wp K U (fun v9 U =>
 (aw .neq aO false v9 a1).wp K U (fun v11 U =>
 ay v11 (
 ae K 166 [a0] U (al (fun cB U =>
 j a0 v5 U) (aa R))) (
 j a0 v5 U)) (aa R)) (aa R)) (aa R)) (aa R)) (aa R)) (aa R))
def RF : Prop :=
 ae K 164 [a0] U (al (fun v3 U =>
 (dO (some [(0, 1)]) (some [.int .i64 0]) none [(0, v3)]).wp K U (fun v4 U =>
 (rI true 136 v4).wp K U (fun v5 U =>
 (oW v5).wp K U (fun _ U =>
 aj R (.aL []) U) (aa R)) (aa R)) (aa R)) (aa R))
def IG : Prop :=
 (aA.cN [.int .u8 0, .str [], .int .i64 0]).wp K U (fun v4 U =>
 (fun az : St =>
 av K (a8 a0) (fun v6 =>
 av K (af (some 1) v6) (fun v7 =>
 av K (ao aE v7 az) (fun v8 =>
 av K (aw .add aO false v8 a1) (fun v10 =>
 av K (a8 a0) (fun v12 =>
 av K (af (some 0) v12) (fun cB =>
 av K (ao aE cB az) (fun df =>
 av K (bZ (some false) df) (fun cM =>
 av K (aw .lss aO false v10 cM) (fun dA =>
 ay dA (
 (fun hP : St =>
 av K (a8 a0) (fun cz =>
 av K (af (some 0) cz) (fun dE =>
 av K (ao aE dE hP) (fun v20 =>
 av K (a8 a0) (fun dW =>
 av K (af (some 1) dW) (fun ey =>
 av K (ao aE ey hP) (fun v24 =>
 av K (aw .add aO false v24 a1) (fun fV =>
 av K (aJ (some (51, 3)) none v20 fV) (fun dX =>
 av K (ao (some (true, 3)) dX hP) (fun v28 =>
 (aM (some (true, 3)) v4 v28 U).wp K U (fun _ U =>
 bI (some (true, 3)) v4 U fun r0 =>
 aj R r0 U) (aa R))))))))))) U) (
 (dO (some [(0, 1), (1, 1), (2, 1)]) (some [.int .u8 0, .str [], .int .i64 0]) none []).wp K U (fun dS U =>
 (aM (some (true, 3)) v4 dS U).wp K U (fun _ U =>
 bI (some (true, 3)) v4 U fun rY =>
 aj R rY U) (aa R)) (aa R)))))))))))) U) (aa R)
def RG : Prop :=
 ae K 165 [a0, (.int .u8 2)] U (al (fun v7 U =>
 ae K 218 [v7] U (al (fun v8 U =>
 (aV v8 0).wp K U (fun v9 U =>
 (aV v8 1).wp K U (fun v10 U =>
 ko 1 (fun v3 U =>
 aj R v3 U) fun j =>
 (aw .neq (BT.mk false true false none false) true v10 .cg).wp K U (fun v12 U =>
 ay v12 (
 ae K 166 [a0] U (al (fun df U =>
 j v9 U) (aa R))) (
 j v9 U)) (aa R)) (aa R)) (aa R)) (aa R))) (aa R))
def IJ : Prop :=
 ae K 167 [a0, (.int .i64 0)] U (al (fun v8 U =>
 (aA.cN [.int .u8 0, .str [], .int .i64 0]).wp K U (fun v3 U =>
 (aM (some (true, 3)) v3 v8 U).wp K U (fun _ U =>
 (fun az : St =>
 av K (a8 a0) (fun v11 =>
 av K (af (some 4) v11) (fun v12 =>
 av K (ao aE v12 az) (fun cB =>
 av K (af (some 1) v3) (fun df =>
 av K (ao aE df az) (fun cM =>
 av K (ez (some (.s, 186)) (some .cx) cB cM true az) (fun dA =>
 av K (aV dA 0) (fun dK =>
 av K (aV dA 1) (fun cz =>
 ah K (aF cz true) (af (some 0) v3) (fun v21 =>
 ah K (aF cz true) (ao aE v21 U) (fun dW =>
 ah K (aF cz true) (aw .eql aO true dW (.int .u8 3)) (fun ey =>
 (bu cz ey (.bool false)).wp K U (fun v24 U =>
 ay v24 (
 (eT K.P dK [a0]).wp K U (fun dX U =>
 aj R dX U) (aa R)) (
 ko 2 (fun v0 gH U =>
 ay gH (
 ae K 99 [v0, (.int .u8 16)] U (al (fun iU U =>
 ae K 101 [v0] U (al (fun lZ U =>
 (a8 iU).wp K U (fun nS U =>
 (af (some 0) nS).wp K U (fun iu U =>
 (af (some 1) iu).wp K U (fun o5 U =>
 (aM aE o5 lZ U).wp K U (fun _ U =>
 ae K 102 [v0, (.str cw)] U (al (fun v46 U =>
 ae K 169 [v0] U (al (fun v49 U =>
 (aD (some (87, 1)) (some [.aR]) 1 false [(0, v49)]).wp K U (fun sJ U =>
 ae K 103 [iU, sJ] U (al (fun v51 U =>
 aj R v51 U) (aa R))) (aa R)) (aa R))) (aa R))) (aa R)) (aa R)) (aa R)) (aa R)) (aa R))) (aa R))) (
 ae K 219 [v0, (.int .i64 2)] U (al (fun v53 U =>
 aj R v53 U) (aa R)))) fun j =>
 (af (some 0) v3).wp K U (fun v28 U =>
 (ao aE v28 U).wp K U (fun dS U =>
 (aw .eql aO true dS (.int .u8 1)).wp K U (fun v30 U =>
 ah K (aF v30 true) (aA.val a0) (fun jP =>
 ay (aF v30 true) (
 ae K 167 [jP, (.int .i64 1)] U (al (fun fD U =>
 ah K (aF v30 true) (aD (some (9, 1)) (some [.str []]) 1 false [(0, (.str cw))]) (fun gY =>
 ah K (aF v30 true) (aA.enter 121 [fD, gY]) (fun gZ =>
 (bu v30 gZ (.bool false)).wp K U (fun nj U =>
 j a0 nj U) (aa R)))) (aa R))) (
 ah K (aF v30 true) (aD (some (9, 1)) (some [.str []]) 1 false [(0, (.str cw))]) (fun FD =>
 ah K (aF v30 true) (aA.enter 121 [(.aL []), FD]) (fun xv =>
 (bu v30 xv (.bool false)).wp K U (fun Ue U =>
 j a0 Ue U) (aa R)))))) (aa R)) (aa R)) (aa R))) (aa R))))))))))))) U) (aa R)) (aa R)) (aa R))
def RH : Prop :=
 ae K 230 [a0, a1] U (al (fun v7 U =>
 (aw .geq aO true v7 (.int .i64 0)).wp K U (fun v8 U =>
 aj R v8 U) (aa R)) (aa R))
def IM : Prop :=
 (aw .geq aO true a0 (.int .u8 2)).wp K U (fun v4 U =>
 ah K (aF v4 true) (aA.val a0) (fun v6 =>
 ah K (aF v4 true) (aw .leq aO true v6 (.int .u8 4)) (fun v7 =>
 (bu v4 v7 (.bool false)).wp K U (fun v8 U =>
 aj R v8 U) (aa R)))) (aa R)
def IP : Prop :=
 ae K 206 [a0] U (al (fun v4 U =>
 ah K (aF v4 false) (aA.val a0) (fun v6 =>
 ah K (aF v4 false) (aw .eql aO true v6 (.int .u8 8)) (fun v7 =>
 (bu v4 (.bool true) v7).wp K U (fun v8 U =>
 aj R v8 U) (aa R)))) (aa R))
def IS : Prop :=
 (aw .geq aO true a0 (.int .u8 9)).wp K U (fun v4 U =>
 ah K (aF v4 true) (aA.val a0) (fun v6 =>
 ah K (aF v4 true) (aw .leq aO true v6 (.int .u8 34)) (fun v7 =>
 (bu v4 v7 (.bool false)).wp K U (fun v8 U =>
 aj R v8 U) (aa R)))) (aa R)
def IU : Prop :=
 (aw .eql aO true a0 (.int .u8 6)).wp K U (fun v4 U =>
 ah K (aF v4 false) (aA.val a0) (fun v6 =>
 ah K (aF v4 false) (aw .eql aO true v6 (.int .u8 7)) (fun v7 =>
 (bu v4 (.bool true) v7).wp K U (fun v8 U =>
 aj R v8 U) (aa R)))) (aa R)
def IW : Prop :=
 ae K 185 [a0] U (al (fun v4 U =>
 ah K (aF v4 false) (aA.val a0) (fun v6 =>
 ah K (aF v4 false) (aw .eql aO true v6 (.int .u8 35)) (fun v7 =>
 (bu v4 (.bool true) v7).wp K U (fun v8 U =>
 ah K (aF v8 false) (aA.val a0) (fun v10 =>
 ah K (aF v8 false) (aw .eql aO true v10 (.int .u8 36)) (fun v11 =>
 (bu v8 (.bool true) v11).wp K U (fun v12 U =>
 aj R v12 U) (aa R)))) (aa R)))) (aa R))
def IY : Prop :=
 ae K 33 [a0] U (al (fun v8 U =>
 (aV v8 0).wp K U (fun v9 U =>
 (aV v8 1).wp K U (fun v10 U =>
 (aV v8 2).wp K U (fun v11 U =>
 (aw .eql aO true v11 (.int .i64 0)).wp K U (fun cB U =>
 ah K (aF cB true) (aA.val v9) (fun cM =>
 ah K (aF cB true) (bZ (some false) cM) (fun dA =>
 ah K (aF cB true) (aw .eql aO true dA (.int .i64 1)) (fun dK =>
 (bu cB dK (.bool false)).wp K U (fun cz U =>
 ah K (aF cz true) (aA.val v9) (fun v20 =>
 ah K (aF cz true) (aJ (some (51, 3)) none v20 (.int .i64 0)) (fun v21 =>
 ah K (aF cz true) (af (some 0) v21) (fun dW =>
 ah K (aF cz true) (ao aE dW U) (fun ey =>
 ah K (aF cz true) (aw .eql aO true ey (.int .u8 1)) (fun v24 =>
 (bu cz v24 (.bool false)).wp K U (fun fj U =>
 ah K (aF fj true) (aA.val v9) (fun dX =>
 ah K (aF fj true) (aJ (some (51, 3)) none dX (.int .i64 0)) (fun v28 =>
 ah K (aF fj true) (af (some 1) v28) (fun dS =>
 ah K (aF fj true) (ao aE dS U) (fun v30 =>
 ah K (aF fj true) (aA.val a0) (fun v31 =>
 ah K (aF fj true) (aw .eql aO false v30 v31) (fun jP =>
 (bu fj jP (.bool false)).wp K U (fun fD U =>
 aj R fD U) (aa R)))))))) (aa R))))))) (aa R))))) (aa R)) (aa R)) (aa R)) (aa R)) (aa R))
def I0 : Prop :=
 (bZ (some false) a1).wp K U (fun v12 U =>
 dQ 5 [a0, a1, a1, v12, (.int .i64 0)] U fun lp v0 v1 v11 zZ cB U =>
 (aw .lss aO false cB zZ).wp K U (fun df U =>
 ay df (
 (aJ (some (200, 3)) none v11 cB).wp K U (fun dA U =>
 (ao (some (true, 3)) dA U).wp K U (fun dK U =>
 (aA.cN [.cx, .int .i64 0, .int .i64 0]).wp K U (fun v6 U =>
 (aM (some (true, 3)) v6 dK U).wp K U (fun _ U =>
 (aw .add aO true cB (.int .i64 1)).wp K U (fun v20 U =>
 (fi false (some (200, 3)) v1 (some v20) none).wp K U (fun v21 U =>
 (bZ (some false) v21).wp K U (fun dW U =>
 dQ 10 [v0, v1, v6, (.int .i64 0), v11, zZ, cB, v21, dW, (.int .i64 0)] U fun Bu qh gO qk v7 xr Nr uG Nv Nw ey U =>
 (aw .lss aO false ey Nw).wp K U (fun v24 U =>
 ay v24 (
 (aJ (some (200, 3)) none Nv ey).wp K U (fun fj U =>
 (ao (some (true, 3)) fj U).wp K U (fun fV U =>
 (aA.cN [.cx, .int .i64 0, .int .i64 0]).wp K U (fun v9 U =>
 (aM (some (true, 3)) v9 fV U).wp K U (fun _ U =>
 (af (some 1) v9).wp K U (fun v28 U =>
 (ao aE v28 U).wp K U (fun dS U =>
 (aw .add aO false v7 dS).wp K U (fun v30 U =>
 (aw .add aO true ey (.int .i64 1)).wp K U (fun v31 U =>
 Bu qh gO qk v30 xr Nr uG Nv Nw v31 U) (aa R)) (aa R)) (aa R)) (aa R)) (aa R)) (aa R)) (aa R)) (aa R)) (
 dQ 8 [qh, gO, qk, v7, (.int .i64 0), xr, Nr, uG] U fun KX FA yE FF lJ v10 Np Ns xu U =>
 ko 9 (fun RZ o3 Se W1 FB Nq Nt Nu vg U =>
 ay vg (
 (aw .add aO true FB (.int .i64 1)).wp K U (fun xw U =>
 KX RZ o3 Se W1 xw Nq Nt Nu U) (aa R)) (
 (af (some 1) Se).wp K U (fun uc U =>
 (ao aE uc U).wp K U (fun zz U =>
 (aw .lss aO false FB zz).wp K U (fun Ca U =>
 ay Ca (
 aj R (.bool false) U) (
 (fi false (some (5, 1)) RZ (some FB) none).wp K U (fun sK U =>
 (aw .add aO true Nu (.int .i64 1)).wp K U (fun JE U =>
 lp sK o3 Nq Nt JE U) (aa R)) (aa R))) (aa R)) (aa R)) (aa R))) fun j =>
 (fun az : St =>
 av K (bZ (some false) FA) (fun gY =>
 av K (aw .sub aO false gY lJ) (fun gH =>
 av K (aw .lss aO false v10 gH) (fun v37 =>
 ah K (aF v37 true) (aA.val v10) (fun o4 =>
 ah K (aF v37 true) (af (some 2) FF) (fun v40 =>
 ah K (aF v37 true) (ao aE v40 az) (fun lZ =>
 ah K (aF v37 true) (aw .lss aO false o4 lZ) (fun nS =>
 av K (bu v37 nS (.bool false)) (fun iu =>
 ah K (aF iu true) (af (some 0) FF) (fun qU =>
 ah K (aF iu true) (ao aE qU az) (fun v46 =>
 ah K (aF iu true) (aA.val FA) (fun qV =>
 ah K (aF iu true) (aA.val v10) (fun Nx =>
 ah K (aF iu true) (aJ (some (5, 1)) none qV Nx) (fun v49 =>
 ah K (aF iu true) (ao aE v49 az) (fun sJ =>
 ay (aF iu true) (
 (eT K.P v46 [sJ]).wp K U (fun v51 U => cn ((cQ v49 ++ []) ++ ((cQ qU ++ []) ++ ((cQ v40 ++ []) ++ []))) az U /\
 av K (bu iu v51 (.bool false)) (fun Uf =>
 j FA yE FF lJ v10 Np Ns xu Uf U)) (aa R)) (
 av K (bu iu (.aL []) (.bool false)) (fun Ug =>
 j FA yE FF lJ v10 Np Ns xu Ug U))))))))))))))))) U)) (aa R)) (aa R)) (aa R)) (aa R)) (aa R)) (aa R)) (aa R)) (aa R)) (
 (bZ (some false) v0).wp K U (fun qW U =>
 (aw .eql aO true qW (.int .i64 0)).wp K U (fun Cb U =>
 aj R Cb U) (aa R)) (aa R))) (aa R)) (aa R)
def BW : Prop :=
 (bZ (some false) a0).wp K U (fun v7 U =>
 dQ 4 [a0, a1, v7, (.int .i64 0)] U fun lp v0 v1 lJ v8 U =>
 (aw .lss aO false v8 lJ).wp K U (fun v9 U =>
 ay v9 (
 (aJ (some (3, 1)) none v0 v8).wp K U (fun df U =>
 (ao aE df U).wp K U (fun cM U =>
 (eT K.P v1 [cM]).wp K U (fun dA U =>
 ay dA (
 aj R v8 U) (
 (aw .add aO true v8 (.int .i64 1)).wp K U (fun cz U =>
 lp v0 v1 lJ cz U) (aa R))) (aa R)) (aa R)) (aa R)) (
 aj R (.int .i64 (-1)) U)) (aa R)) (aa R)
def RI : Prop :=
 ae K 243 [a0, a1] U (al (fun v10 U =>
 (aw .geq aO true v10 (.int .i64 0)).wp K U (fun v12 U =>
 ay v12 (
 (fun az : St =>
 av K (fi true none a0 none (some v10)) (fun cM =>
 av K (bZ (some true) a1) (fun dE =>
 av K (aw .add aO false v10 dE) (fun v20 =>
 av K (fi true none a0 (some v20) none) (fun v21 =>
 aj R (.aL [cM, v21, (.bool true)]) U))))) U) (
 aj R (.aL [a0, (.str w_), (.bool false)]) U)) (aa R)) (aa R))
def RJ : Prop :=
 ae K 246 [a0, a1] U (al (fun v7 U =>
 (aw .geq aO true v7 (.int .i64 0)).wp K U (fun v8 U =>
 aj R v8 U) (aa R)) (aa R))
def I8 : Prop :=
 (aw .eql aO true a0 (.int .u8 32)).wp K U (fun v5 U =>
 ah K (aF v5 false) (aA.val a0) (fun v7 =>
 ah K (aF v5 false) (aw .eql aO true v7 (.int .u8 10)) (fun v8 =>
 (bu v5 (.bool true) v8).wp K U (fun v9 U =>
 ay v9 (
 aj R (.int .i64 1) U) (
 (aw .lss aO true a0 (.int .u8 32)).wp K U (fun v12 U =>
 ah K (aF v12 false) (aA.val a0) (fun df =>
 ah K (aF v12 false) (aw .gtr aO true df (.int .u8 126)) (fun cM =>
 (bu v12 (.bool true) cM).wp K U (fun dA U =>
 ay dA (
 aj R (.int .i64 0) U) (
 (aw .geq aO true a0 (.int .u8 48)).wp K U (fun dE U =>
 ah K (aF dE true) (aA.val a0) (fun v21 =>
 ah K (aF dE true) (aw .leq aO true v21 (.int .u8 57)) (fun dW =>
 (bu dE dW (.bool false)).wp K U (fun ey U =>
 ay ey (
 aj R (.int .i64 2) U) (
 (aw .geq aO true a0 (.int .u8 97)).wp K U (fun fV U =>
 ah K (aF fV true) (aA.val a0) (fun v28 =>
 ah K (aF fV true) (aw .leq aO true v28 (.int .u8 122)) (fun dS =>
 (bu fV dS (.bool false)).wp K U (fun v30 U =>
 ay v30 (
 aj R (.int .i64 3) U) (
 (aw .geq aO true a0 (.int .u8 65)).wp K U (fun fD U =>
 ah K (aF fD true) (aA.val a0) (fun gZ =>
 ah K (aF fD true) (aw .leq aO true gZ (.int .u8 90)) (fun gH =>
 (bu fD gH (.bool false)).wp K U (fun v37 U =>
 ay v37 (
 aj R (.int .i64 4) U) (
 aj R (.int .i64 5) U)) (aa R)))) (aa R))) (aa R)))) (aa R))) (aa R)))) (aa R))) (aa R)))) (aa R))) (aa R)))) (aa R)
def Ja : Prop :=
 (aw .eql aO true a1 (.int .i64 9)).wp K U (fun v12 U =>
 ay v12 (
 ae K 252 [a0] U (al (fun df U =>
 aj R df U) (aa R))) (
 (aw .eql aO true a1 (.int .i64 4)).wp K U (fun dA U =>
 ay dA (
 ae K 99 [a0, (.int .u8 19)] U (al (fun cz U =>
 ae K 100 [a0, (.str FN)] U (al (fun v20 U =>
 ay v20 (
 ae K 219 [a0, (.int .i64 4)] U (al (fun ey U =>
 (aD (some (87, 1)) (some [.aR]) 1 false [(0, ey)]).wp K U (fun v24 U =>
 ae K 103 [cz, v24] U (al (fun fj U =>
 aj R fj U) (aa R))) (aa R)) (aa R))) (
 (aw .add aO true a1 (.int .i64 1)).wp K U (fun v28 U =>
 ae K 219 [a0, v28] U (al (fun dS U =>
 aj R dS U) (aa R))) (aa R))) (aa R))) (aa R))) (
 (aw .add aO true a1 (.int .i64 1)).wp K U (fun jP U =>
 ae K 219 [a0, jP] U (al (fun fD U =>
 dQ 3 [a0, a1, fD] U fun lp v0 v1 v6 U =>
 (fun az : St =>
 av K (a8 v0) (fun gH =>
 av K (af (some 3) gH) (fun v37 =>
 av K (ao aE v37 az) (fun iU =>
 av K (ez (some (.i, 185)) (some .iK) iU v1 false az) (fun v40 =>
 ae K 253 [v0] U (al (fun nS U => cn ((cQ iU ++ (cQ v1 ++ [])) ++ ((cQ v37 ++ []) ++ [])) az U /\
 (∀ b ∈ cQ v40 ++ (cQ nS ++ []), b ∈ (cQ iU ++ (cQ v1 ++ [])) ++ ((cQ v37 ++ []) ++ [])) /\
 av K (ez (some (.s, 5)) (some (.int .u8 0)) v40 nS true az) (fun iu =>
 av K (aV iu 0) (fun o5 =>
 av K (aV iu 1) (fun qU =>
 (gL .not qU).wp K U (fun qV U =>
 ay qV (
 aj R v6 U) (
 ae K 99 [v0, o5] U (al (fun v51 U =>
 (a8 v0).wp K U (fun v53 U =>
 (af (some 1) v53).wp K U (fun xw U =>
 (ao aE xw U).wp K U (fun vi U =>
 (aw .add aO true vi (.int .i64 1)).wp K U (fun uc U =>
 (a8 v0).wp K U (fun zz U =>
 (af (some 1) zz).wp K U (fun Ca U =>
 (aM aE Ca uc U).wp K U (fun _ U =>
 (aw .eql aO true v1 (.int .i64 8)).wp K U (fun JD U =>
 ay JD (
 ae K 168 [v0] U (al (fun JF U =>
 (a8 v51).wp K U (fun qW U =>
 (af (some 0) qW).wp K U (fun Cb U =>
 (af (some 2) Cb).wp K U (fun JG U =>
 (aM aE JG JF U).wp K U (fun _ U =>
 (aD (some (87, 1)) (some [.aR]) 1 false [(0, v6)]).wp K U (fun Cc U =>
 ae K 103 [v51, Cc] U (al (fun v70 U =>
 lp v0 v1 v70 U) (aa R))) (aa R)) (aa R)) (aa R)) (aa R)) (aa R)) (aa R))) (
 (aw .add aO true v1 (.int .i64 1)).wp K U (fun v75 U =>
 ae K 219 [v0, v75] U (al (fun v76 U =>
 (aD (some (87, 1)) (some [.aR]) 2 false [(0, v6), (1, v76)]).wp K U (fun ud U =>
 ae K 103 [v51, ud] U (al (fun Ny U =>
 (aw .eql aO true v1 (.int .i64 5)).wp K U (fun v80 U =>
 ay v80 (
 aj R Ny U) (
 lp v0 v1 Ny U)) (aa R)) (aa R))) (aa R)) (aa R))) (aa R))) (aa R)) (aa R)) (aa R)) (aa R)) (aa R)) (aa R)) (aa R)) (aa R)) (aa R)))) (aa R))))) (aa R))))))) U) (aa R))) (aa R))) (aa R))) (aa R)
def Jc : Prop :=
 (bZ (some false) a0).wp K U (fun v7 U =>
 dQ 4 [a0, a1, v7, (.int .i64 0)] U fun lp v0 v1 lJ v8 U =>
 (aw .lss aO false v8 lJ).wp K U (fun v9 U =>
 ay v9 (
 (aJ (some (9, 1)) none v0 v8).wp K U (fun df U =>
 (ao aE df U).wp K U (fun cM U =>
 (aw .eql aO false v1 cM).wp K U (fun dA U =>
 ay dA (
 aj R v8 U) (
 (aw .add aO true v8 (.int .i64 1)).wp K U (fun cz U =>
 lp v0 v1 lJ cz U) (aa R))) (aa R)) (aa R)) (aa R)) (
 aj R (.int .i64 (-1)) U)) (aa R)) (aa R)
def Je : Prop :=
 (a8 a0).wp K U (fun v10 U =>
 (af (some 2) v10).wp K U (fun v11 U =>
 (ao aE v11 U).wp K U (fun v12 U =>
 (tR (some (.i, 185)) v12).wp K U (fun cB U =>
 dQ 2 [a1, cB] U fun lp v1 uG U =>
 (oa uG U).wp K U (fun df U =>
 (aV df 0).wp K U (fun cM U =>
 ay cM (
 (kS uG U).wp K U (fun dA U =>
 (aV dA 0).wp K U (fun dK U =>
 (aV dA 1).wp K U (fun cz U =>
 (tR (some (.s, 5)) cz).wp K U (fun v20 U =>
 dQ 4 [v1, dK, uG, v20] U fun Bu gO v5 xu FC U =>
 (oa FC U).wp K U (fun v21 U =>
 (aV v21 0).wp K U (fun dW U =>
 ay dW (
 (kS FC U).wp K U (fun ey U =>
 (aV ey 1).wp K U (fun v24 U =>
 (aw .eql aO false v24 gO).wp K U (fun dX U =>
 ay dX (
 aj R v5 U) (
 Bu gO v5 xu FC U)) (aa R)) (aa R)) (aa R)) (
 lp gO xu U)) (aa R)) (aa R)) (aa R)) (aa R)) (aa R)) (aa R)) (
 (aw .eql aO true v1 (.int .u8 9)).wp K U (fun v31 U =>
 ay v31 (
 aj R (.int .i64 0) U) (
 (aw .eql aO true v1 (.int .u8 19)).wp K U (fun gY U =>
 ay gY (
 aj R (.int .i64 4) U) (
 (aw .geq aO true v1 (.int .u8 10)).wp K U (fun v37 U =>
 ah K (aF v37 true) (aA.val v1) (fun o4 =>
 ah K (aF v37 true) (aw .leq aO true o4 (.int .u8 16)) (fun v40 =>
 (bu v37 v40 (.bool false)).wp K U (fun lZ U =>
 ay lZ (
 aj R (.int .i64 1) U) (
 aj R (.int .i64 9) U)) (aa R)))) (aa R))) (aa R))) (aa R))) (aa R)) (aa R)) (aa R)) (aa R)) (aa R)) (aa R)
def Jg : Prop :=
 (ao aE a1 U).wp K U (fun v5 U =>
 (aw .eql aO false a0 v5).wp K U (fun v6 U =>
 aj R v6 U) (aa R)) (aa R)
def Ji : Prop :=
 (bZ (some false) a0).wp K U (fun v7 U =>
 dQ 4 [a0, a1, v7, (.int .i64 0)] U fun lp v0 v1 lJ v8 U =>
 (aw .lss aO false v8 lJ).wp K U (fun v9 U =>
 ay v9 (
 (aJ (some (178, 1)) none v0 v8).wp K U (fun df U =>
 (ao aE df U).wp K U (fun cM U =>
 (aw .eql aO false v1 cM).wp K U (fun dA U =>
 ay dA (
 aj R v8 U) (
 (aw .add aO true v8 (.int .i64 1)).wp K U (fun cz U =>
 lp v0 v1 lJ cz U) (aa R))) (aa R)) (aa R)) (aa R)) (
 aj R (.int .i64 (-1)) U)) (aa R)) (aa R)
def Jk : Prop :=
 (aA.zT).wp K U (fun v10 U =>
 (gk (some (.s, 5)) v10 (.str fl) (.int .u8 27) U).wp K U (fun _ U =>
 (gk (some (.s, 5)) v10 (.str fH) (.int .u8 28) U).wp K U (fun _ U =>
 (gk (some (.s, 5)) v10 (.str iW) (.int .u8 29) U).wp K U (fun _ U =>
 (gk (some (.s, 5)) v10 (.str kg) (.int .u8 30) U).wp K U (fun _ U =>
 (gk (some (.s, 5)) v10 (.str mI) (.int .u8 31) U).wp K U (fun _ U =>
 (gk (some (.s, 5)) v10 (.str oe) (.int .u8 32) U).wp K U (fun _ U =>
 ae K 253 [a0] U (al (fun cM U =>
 (ez (some (.s, 5)) (some (.int .u8 0)) v10 cM true U).wp K U (fun dA U =>
 (aV dA 0).wp K U (fun dK U =>
 (aV dA 1).wp K U (fun cz U =>
 ay cz (
 ae K 99 [a0, dK] U (al (fun dW U =>
 (a8 a0).wp K U (fun v24 U =>
 (af (some 1) v24).wp K U (fun fj U =>
 (ao aE fj U).wp K U (fun fV U =>
 (aw .add aO true fV (.int .i64 1)).wp K U (fun dX U =>
 (a8 a0).wp K U (fun v28 U =>
 (af (some 1) v28).wp K U (fun dS U =>
 (aM aE dS dX U).wp K U (fun _ U =>
 ko 1 (fun v6 U =>
 aj R v6 U) fun j =>
 (aw .eql aO true dK (.int .u8 31)).wp K U (fun v31 U =>
 ah K (aF v31 false) (aA.val dK) (fun fD =>
 ah K (aF v31 false) (aw .eql aO true fD (.int .u8 32)) (fun gY =>
 (bu v31 (.bool true) gY).wp K U (fun gZ U =>
 ay gZ (
 ae K 101 [a0] U (al (fun iU U =>
 (a8 dW).wp K U (fun o4 U =>
 (af (some 0) o4).wp K U (fun v40 U =>
 (af (some 1) v40).wp K U (fun lZ U =>
 (aM aE lZ iU U).wp K U (fun _ U =>
 j dW U) (aa R)) (aa R)) (aa R)) (aa R)) (aa R))) (
 j dW U)) (aa R)))) (aa R)) (aa R)) (aa R)) (aa R)) (aa R)) (aa R)) (aa R)) (aa R)) (aa R))) (
 ae K 100 [a0, (.str og)] U (al (fun o5 U =>
 ay o5 (
 ae K 109 [a0] U (al (fun v46 U =>
 ae K 102 [a0, (.str pN)] U (al (fun Nx U =>
 aj R v46 U) (aa R))) (aa R))) (
 ae K 167 [a0, (.int .i64 0)] U (al (fun v51 U =>
 (pd (some (0, false, 1)) v51).wp K U (fun vg U =>
 (aw .eql aO true vg (.int .u8 2)).wp K U (fun v53 U =>
 ay v53 (
 ae K 99 [a0, (.int .u8 26)] U (al (fun vi U =>
 ae K 168 [a0] U (al (fun Ca U =>
 (a8 vi).wp K U (fun v59 U =>
 (af (some 0) v59).wp K U (fun JD U =>
 (af (some 2) JD).wp K U (fun sK U =>
 (aM aE sK Ca U).wp K U (fun _ U =>
 aj R vi U) (aa R)) (aa R)) (aa R)) (aa R)) (aa R))) (aa R))) (
 ae K 99 [a0, (.int .u8 33)] U (al (fun qW U =>
 ae K 101 [a0] U (al (fun vj U =>
 (a8 qW).wp K U (fun Sd U =>
 (af (some 0) Sd).wp K U (fun Cc U =>
 (af (some 1) Cc).wp K U (fun v70 U =>
 (aM aE v70 vj U).wp K U (fun _ U =>
 ko 1 (fun v9 U =>
 aj R v9 U) fun Vi =>
 ae K 100 [a0, (.str og)] U (al (fun v72 U =>
 ay v72 (
 (a8 qW).wp K U (fun Cd U =>
 (af (some 0) Cd).wp K U (fun v75 U =>
 (af (some 0) v75).wp K U (fun v76 U =>
 (aM aE v76 (.int .u8 34) U).wp K U (fun _ U =>
 ae K 106 [a0, qW, (.func (.func 269) [a0] [])] U (al (fun Ce U =>
 ae K 102 [a0, (.str pN)] U (al (fun NA U =>
 Vi qW U) (aa R))) (aa R))) (aa R)) (aa R)) (aa R)) (aa R)) (
 Vi qW U)) (aa R))) (aa R)) (aa R)) (aa R)) (aa R)) (aa R))) (aa R)))) (aa R)) (aa R)) (aa R)))) (aa R)))) (aa R)) (aa R)) (aa R)) (aa R))) (aa R)) (aa R)) (aa R)) (aa R)) (aa R)) (aa R)) (aa R)
def Jm : Prop :=
 ae K 167 [a0, (.int .i64 0)] U (al (fun v5 U =>
 (aA.cN [.int .u8 0, .str [], .int .i64 0]).wp K U (fun v3 U =>
 (aM (some (true, 3)) v3 v5 U).wp K U (fun _ U =>
 (af (some 0) v3).wp K U (fun v6 U =>
 (ao aE v6 U).wp K U (fun v7 U =>
 (aw .eql aO true v7 (.int .u8 3)).wp K U (fun v8 U =>
 ah K (aF v8 false) (af (some 0) v3) (fun v10 =>
 ah K (aF v8 false) (ao aE v10 U) (fun v11 =>
 ah K (aF v8 false) (aw .eql aO true v11 (.int .u8 4)) (fun v12 =>
 (bu v8 (.bool true) v12).wp K U (fun cB U =>
 ay cB (
 (af (some 1) v3).wp K U (fun df U =>
 (ao aE df U).wp K U (fun cM U =>
 aj R cM U) (aa R)) (aa R)) (
 aj R (.str w_) U)) (aa R))))) (aa R)) (aa R)) (aa R)) (aa R)) (aa R)) (aa R))
def Jo : Prop :=
 (aD (some (9, 1)) (some [.str []]) 1 false [(0, (.str FJ))]).wp K U (fun v7 U =>
 ae K 105 [a0, v7] U (al (fun v8 U =>
 ay v8 (
 ae K 99 [a0, (.int .u8 35)] U (al (fun v10 U =>
 ae K 102 [a0, (.str FJ)] U (al (fun v12 U =>
 ae K 102 [a0, (.str og)] U (al (fun df U =>
 ae K 106 [a0, v10, (.func (.func 278) [a0] [])] U (al (fun dE U =>
 ae K 102 [a0, (.str pN)] U (al (fun v21 U =>
 ae K 169 [a0] U (al (fun v24 U =>
 (aD (some (87, 1)) (some [.aR]) 1 false [(0, v24)]).wp K U (fun fj U =>
 ae K 103 [v10, fj] U (al (fun fV U =>
 aj R fV U) (aa R))) (aa R)) (aa R))) (aa R))) (aa R))) (aa R))) (aa R))) (aa R))) (
 (aD (some (9, 1)) (some [.str []]) 1 false [(0, (.str xF))]).wp K U (fun dS U =>
 ae K 105 [a0, dS] U (al (fun v30 U =>
 ay v30 (
 ae K 99 [a0, (.int .u8 36)] U (al (fun jP U =>
 ae K 102 [a0, (.str xF)] U (al (fun gY U =>
 ae K 102 [a0, (.str FL)] U (al (fun gH U =>
 ae K 169 [a0] U (al (fun o4 U =>
 (aD (some (87, 1)) (some [.aR]) 1 false [(0, o4)]).wp K U (fun v40 U =>
 ae K 103 [jP, v40] U (al (fun lZ U =>
 ae K 102 [a0, (.str sh)] U (al (fun iu U =>
 ae K 102 [a0, (.str FP)] U (al (fun qU U =>
 ae K 278 [a0] U (al (fun Nx U =>
 (aD (some (87, 1)) (some [.aR]) 1 false [(0, Nx)]).wp K U (fun v49 U =>
 ae K 103 [jP, v49] U (al (fun sJ U =>
 ae K 102 [a0, (.str z6)] U (al (fun vg U =>
 ae K 169 [a0] U (al (fun vi U =>
 (aD (some (87, 1)) (some [.aR]) 1 false [(0, vi)]).wp K U (fun uc U =>
 ae K 103 [jP, uc] U (al (fun zz U =>
 ae K 102 [a0, (.str z7)] U (al (fun v59 U =>
 aj R jP U) (aa R))) (aa R))) (aa R)) (aa R))) (aa R))) (aa R))) (aa R)) (aa R))) (aa R))) (aa R))) (aa R))) (aa R)) (aa R))) (aa R))) (aa R))) (aa R))) (
 ae K 109 [a0] U (al (fun JE U =>
 aj R JE U) (aa R)))) (aa R))) (aa R))) (aa R))) (aa R)
def Jq : Prop :=
 ae K 99 [a0, (.int .u8 37)] U (al (fun v5 U =>
 ae K 101 [a0] U (al (fun v8 U =>
 (a8 v5).wp K U (fun v9 U =>
 (af (some 0) v9).wp K U (fun v10 U =>
 (af (some 1) v10).wp K U (fun v11 U =>
 (aM aE v11 v8 U).wp K U (fun _ U =>
 aj R v5 U) (aa R)) (aa R)) (aa R)) (aa R)) (aa R))) (aa R))
end
section
variable {a0 a1 a2 a3 a4 a5 a6 : AV} {R : cm -> St -> Prop} {U : St}
theorem Il (h : Ik a0 a1 R U) : ae K 154 [a0, a1] U R := bJ Tryz.f154 Pc h
theorem Io (h : Im a0 a1 a2 a3 R U) : ae K 155 [a0, a1, a2, a3] U R := bJ Tryz.f155 Pd h
theorem Iq (h : Ip a0 R U) : ae K 158 [a0] U R := bJ Tryz.f158 Pe h
theorem Is (h : Ir a0 R U) : ae K 159 [a0] U R := bJ Tryz.f159 Pf h
theorem Iu (h : It a0 R U) : ae K 160 [a0] U R := bJ Tryz.f160 Pg h
theorem Iw (h : Iv a0 R U) : ae K 161 [a0] U R := bJ Tryz.f161 Ph h
theorem Iz (h : Iy a0 R U) : ae K 162 [a0] U R := bJ Tryz.f162 Pj h
theorem IB (h : IA a0 R U) : ae K 163 [a0] U R := bJ Tryz.f163 Pk h
theorem ID (h : IC a0 R U) : ae K 164 [a0] U R := bJ Tryz.f164 Pm h
theorem IE (h : RE a0 a1 R U) : ae K 165 [a0, a1] U R := bJ Tryz.f165 Pn h
theorem IF (h : RF a0 R U) : ae K 166 [a0] U R := bJ Tryz.f166 Po h
theorem IH (h : IG a0 a1 R U) : ae K 167 [a0, a1] U R := bJ Tryz.f167 Pp h
theorem II (h : RG a0 R U) : ae K 168 [a0] U R := bJ Tryz.f168 Pq h
theorem IK (h : IJ a0 R U) : ae K 169 [a0] U R := bJ Tryz.f169 Pr h
theorem IL (h : RH a0 a1 R U) : ae K 178 [a0, a1] U R := bJ Tryz.f178 Ps h
theorem IN (h : IM a0 R U) : ae K 179 [a0] U R := bJ Tryz.f179 Pt h
theorem IQ (h : IP a0 R U) : ae K 181 [a0] U R := bJ Tryz.f181 Pu h
theorem IT (h : IS a0 R U) : ae K 185 [a0] U R := bJ Tryz.f185 Pv h
theorem IV (h : IU a0 R U) : ae K 206 [a0] U R := bJ Tryz.f206 Pw h
theorem IX (h : IW a0 R U) : ae K 207 [a0] U R := bJ Tryz.f207 Px h
theorem IZ (h : IY a0 R U) : ae K 208 [a0] U R := bJ Tryz.f208 Py h
theorem I6 (h : I0 a0 a1 R U) : ae K 209 [a0, a1] U R := bJ Tryz.f209 Pz h
theorem zu (h : BW a0 a1 R U) : ae K 210 [a0, a1] U R := bJ Tryz.f210 PA h
theorem zw (h : RI a0 a1 R U) : ae K 212 [a0, a1] U R := bJ Tryz.f212 PB h
theorem I7 (h : RJ a0 a1 R U) : ae K 215 [a0, a1] U R := bJ Tryz.f215 PC h
theorem I9 (h : I8 a0 R U) : ae K 216 [a0] U R := bJ Tryz.f216 PD h
theorem Jb (h : Ja a0 a1 R U) : ae K 219 [a0, a1] U R := bJ Tryz.f219 PE h
theorem Jd (h : Jc a0 a1 R U) : ae K 230 [a0, a1] U R := bJ Tryz.f230 PF h
theorem Jf (h : Je a0 a1 R U) : ae K 236 [a0, a1] U R := bJ Tryz.f236 PG h
theorem Jh (h : Jg a0 a1 R U) : ae K 242 [a0, a1] U R := bJ Tryz.f242 PH h
theorem Jj (h : Ji a0 a1 R U) : ae K 246 [a0, a1] U R := bJ Tryz.f246 PI h
theorem Jl (h : Jk a0 R U) : ae K 252 [a0] U R := bJ Tryz.f252 PJ h
theorem Jn (h : Jm a0 R U) : ae K 253 [a0] U R := bJ Tryz.f253 PK h
theorem Jp (h : Jo a0 R U) : ae K 269 [a0] U R := bJ Tryz.f269 PL h
theorem Jr (h : Jq a0 R U) : ae K 278 [a0] U R := bJ Tryz.f278 PM h
end
end Go.Rip
