/- Lemmas for the proof: no conditions. -/
import Derived.Test.YtnfpmiiopiinbaaGreatDoorRipZz
import Derived.Test.YtnfpmiiopiinbaaGreatDoorRipD
set_option linter.unusedVariables false
set_option linter.unusedSimpArgs false
set_option linter.loopingSimpArgs false
set_option maxRecDepth 100000
namespace Go.Rip
open Go.Proofs
def ZU:An:=ai (.bk (.lp [0,2,3,5] (bm (ai (.cd .z .z)) (bm (.bk (ai (.cd .z .z))) cR))))
def ZV:An:=ai (ai (ai .z))
def ZW:An:=ai (ai (bm (ai (.bk (.lp [0,3,8,9,10] (ai (bm (.cd .z .z) (bm (.bk (ai (ai cR))) cR)))))) (ai .z)))
def ZX:An:=ai (ai (bm (ai (.bk (.lp [0,3,8,9,10] (ai (bm (.cd .z .z) (bm (.bk (ai (ai cR))) cR)))))) (ai .z)))
def ZY:An:=ai (ai (ai (ai (ai (ai (ai (ai (ai (ai .z)))))))))
def ZZ:An:=ai (ai (ai (ai (ai (ai (ai (ai .z)))))))
def Z0:An:=ai (ai (ai (ai (ai (ai .z)))))
def Z1:An:=ai (ai (ai (ai (ai (ai (ai (ai .z)))))))
def Z2:An:=ai (bm (bm (.rg [] [] (some ⟨[(true,0),(true,1),(true,2),(true,3),(true,4),(true,5),(true,6),(true,7),(true,8),(true,9)],[⟨8,1,0⟩,⟨16,8,1⟩,⟨32,16,2⟩,⟨64,32,4⟩,⟨128,1,0⟩,⟨256,128,16⟩,⟨512,256,32⟩,⟨1024,512,64⟩,⟨2048,1024,128⟩,⟨4096,2112,264⟩]⟩)) (.cd (bm (.rg [] [] (some ⟨[(true,0),(true,1),(true,2),(true,3),(true,4),(true,5),(true,6),(true,7),(true,8),(true,9),(true,10),(true,11)],[⟨8192,1,0⟩,⟨16384,8192,1⟩,⟨32768,16384,2⟩,⟨65536,32768,4⟩,⟨131072,1,0⟩,⟨262144,131072,16⟩,⟨524288,262144,32⟩,⟨1048576,524288,64⟩,⟨2097152,1114112,136⟩,⟨4194304,2097152,256⟩,⟨8388608,4194304,512⟩,⟨4,8388608,2047⟩]⟩)) .z) .z)) (ai .z))
def Z3:An:=ai (ai (.sq (some [0,5]) (ai (.cd cR .z)) (ai (ai .z))))
def Z4:An:=cR
def Z5:An:=ai (bm (bm (.rg [] [] (some ⟨[(true,0),(true,1),(true,2),(true,3),(true,4),(true,5),(true,6),(true,7),(true,8),(true,9),(true,10),(true,11)],[⟨32,1,0⟩,⟨64,32,1⟩,⟨128,64,2⟩,⟨256,128,4⟩,⟨512,2,0⟩,⟨1024,768,24⟩,⟨2048,1,0⟩,⟨4096,2048,64⟩,⟨8192,4096,128⟩,⟨16384,8192,256⟩,⟨32768,16384,512⟩,⟨65536,33792,1056⟩]⟩)) (.cd (bm (.rg [] [] (some ⟨[(true,0),(true,1),(true,2),(true,3),(true,4),(true,5),(true,6),(true,7),(true,8),(true,9),(true,10),(true,11),(false,12)],[⟨131072,1,0⟩,⟨262144,131072,1⟩,⟨524288,262144,2⟩,⟨1048576,524288,4⟩,⟨2097152,1,0⟩,⟨4194304,2097152,16⟩,⟨8388608,4194304,32⟩,⟨16777216,8388608,64⟩,⟨33554432,2,0⟩,⟨67108864,50331648,384⟩,⟨134217728,68157440,520⟩,⟨268435456,134217728,1024⟩,⟨0,268435472,4095⟩]⟩)) .z) .z)) (ai .z))
def Z6:An:=ai (ai (.sq (some [3]) (ai (.cd cR .z)) (ai .z)))
def Z7:An:=ai (ai (bm (bm (.rg [] [] (some ⟨[(true,0),(true,1),(true,2),(true,3),(true,4),(true,5),(true,6),(true,7),(true,8),(true,9),(true,10),(true,11)],[⟨1024,1,0⟩,⟨2048,1024,1⟩,⟨4096,2048,2⟩,⟨8192,4096,4⟩,⟨16384,8,0⟩,⟨32768,16384,16⟩,⟨65536,40960,40⟩,⟨512,65536,64⟩,⟨131072,512,128⟩,⟨262144,512,128⟩,⟨16,131072,511⟩,⟨32,262144,2047⟩]⟩)) (ai (.cd (ai .z) .z))) (bm (.sq (some [0,36]) (.rg [] [121] none) (.cd (ai (ai (ai (ai .z)))) .z)) (ai .z))))
def Z8:An:=ai (ai .z)
def Z9:An:=ai (ai .z)
def aaa:An:=ai (ai (ai (.sq (some [0]) (ai (.cd (ai cR) (ai (ai (ai (ai (ai (ai cR)))))))) cR)))
def aab:An:=ai (ai .z)
def aac:An:=ai (.bk (ai (.cd (ai (ai (ai (ai cR)))) (ai (.cd cR (ai (.cd cR (ai cR))))))))
def aad:An:=ai (bm (ai (.cd (ai (ai .z)) .z)) (ai (ai (.sq (some [0,2,4,6,7]) (ai (.cd cR .z)) (ai (bm (ai (.bk (.lp [0,2,4,6,42] (ai (bm (.cd .z .z) (.bk (ai (ai (.cd cR .z))))))))) (bm (ai (.cd (ai .z) .z)) cR)))))))
def aae:An:=ai (ai (.bk (ai (.cd (ai (ai (.bk (.lp [0,18,19,20] (ai (bm (.cd .z .z) (bm (.bk (ai cR)) cR))))))) (ai (.cd cR (ai (.cd cR (ai (.cd cR (ai (.cd (ai (ai (ai (ai (ai (ai cR)))))) (ai (.cd (ai (ai cR)) (ai (.cd (ai cR) (ai (.cd (ai (ai (ai (ai cR)))) .z))))))))))))))))))
def aaf:An:=ai (ai .z)
def aag:An:=ai (ai (.bk (ai (.cd cR (ai (.cd (ai cR) (ai (.cd (ai cR) (ai (.cd cR (ai (.cd (ai (ai (ai cR))) cR))))))))))))
def aah:An:=ai (ai (.bk (ai (.cd (ai (ai cR)) (ai (.cd cR (ai (.cd (ai (ai (ai cR))) (ai (.cd (ai (ai (ai (ai (ai cR))))) .z))))))))))
def aai:An:=ai (bm (ai (.cd (ai .z) .z)) (ai .z))
def aaj:An:=ai (ai (ai (ai .z)))
def aak:An:=ai (ai .z)
def aal:An:=ai (ai .z)
def aam:An:=ai (ai (ai .z))
def aan:An:=ai (bm (ai (.bk (.lp [0,1,11,12,13] (ai (bm (.cd .z .z) (bm (.bk (ai (ai (bm (ai (.bk (.lp [0,1,6,7,11,12,13,21,22,23] (ai (bm (.cd .z .z) (bm (.bk (ai cR)) cR)))))) (ai (bm (.bk (.lp [0,1,6,7,10,11,12,13] (bm (.sq (some [0,1,6,7,10,11,12,13,52]) (.rg [] [] (some ⟨[(true,0),(true,1),(true,2),(true,3),(true,4),(true,5),(true,6),(true,7),(true,8),(true,9),(true,10),(true,11),(true,12),(true,13),(true,14),(true,15),(true,16),(true,17),(true,18),(false,19),(true,20)],[⟨4294967296,1024,0⟩,⟨8589934592,1,0⟩,⟨17179869184,8589934592,2⟩,⟨34359738368,128,0⟩,⟨68719476736,51539607552,12⟩,⟨137438953472,73014444032,17⟩,⟨274877906944,137438953472,32⟩,⟨549755813888,274877907968,64⟩,⟨1099511627776,274877907008,64⟩,⟨2199023255552,1374389534720,320⟩,⟨4398046511104,3023656976384,704⟩,⟨8796093022208,4672924418048,1088⟩,⟨17592186044416,8796093022208,2112⟩,⟨35184372088832,17592186044480,4096⟩,⟨70368744177664,52776558133248,12288⟩,⟨140737488355328,17592186044417,4096⟩,⟨281474976710656,17592186045440,4096⟩,⟨562949953421312,439804651110400,102400⟩,⟨1125899906842624,580542139465728,135168⟩,⟨2251799813685248,1213860837064704,282624⟩,⟨4503599627370496,2269391999729664,528384⟩]⟩)) (.cd .z .z)) (.bk cR)))) (bm (ai (.cd (ai .z) .z)) cR))))))) cR)))))) (ai .z))
def aao:An:=ai (bm (ai (.bk (.lp [0,1,7,8] (ai (bm (.cd .z .z) (bm (.bk (ai (ai (.cd (ai .z) .z)))) cR)))))) (ai .z))
def aap:An:=ai (bm (ai (ai (.cd (bm (.rg [] [] (some ⟨[(true,0),(true,1),(true,2),(true,3),(true,4),(true,5),(true,6),(true,7),(true,8),(true,9),(true,10),(true,11)],[⟨8192,1,0⟩,⟨16384,128,0⟩,⟨32768,24576,3⟩,⟨65536,1,0⟩,⟨131072,128,0⟩,⟨262144,2,0⟩,⟨524288,262144,32⟩,⟨1048576,655360,80⟩,⟨2097152,1114112,136⟩,⟨16,32768,7⟩,⟨32,2097152,1023⟩,⟨64,0,2047⟩]⟩)) .z) .z))) (ai .z))
def aaq:An:=ai (ai .z)
def aar:An:=ai (bm (.bk (ai (.cd (ai .z) (ai (.cd (ai .z) (ai (.cd (ai .z) (ai (.cd (ai .z) (ai (.cd (ai .z) .z))))))))))) (ai .z))
def aas:An:=ai (bm (ai (.bk (ai (.cd (ai .z) (ai (.cd (bm (ai (ai (.cd (ai .z) .z))) (ai .z)) .z)))))) (ai (.bk (.lp [0,1,6] (.bk (bm (.rg [] [] (some ⟨[(true,0),(true,1),(true,2),(true,3),(true,4),(true,5),(true,6),(false,7),(true,8),(true,9),(true,10),(true,11),(true,12),(true,13)],[⟨34359738368,1,0⟩,⟨68719476736,34359738368,1⟩,⟨137438953472,68719476736,2⟩,⟨274877906944,137438953472,4⟩,⟨549755813888,2,0⟩,⟨1099511627776,824633720832,24⟩,⟨2199023255552,1,0⟩,⟨4398046511104,2199023255552,64⟩,⟨8796093022208,5497558138880,160⟩,⟨17179869184,8796093022208,256⟩,⟨17592186044416,17179869184,512⟩,⟨35184372088832,17179869184,512⟩,⟨128,17592186044416,2047⟩,⟨256,35184372088832,8191⟩]⟩)) (bm (ai (.cd (ai .z) .z)) (ai (ai (bm (ai (.cd (ai (ai .z)) .z)) (ai (ai (.cd (ai .z) .z)))))))))))))
def aat:An:=ai (bm (ai (.bk (.lp [0,1,7,8] (ai (bm (.cd .z .z) (bm (.bk (ai (ai (.cd (ai .z) .z)))) cR)))))) (ai .z))
def aau:An:=ai (.bk (.lp [0,7,8,9] (ai (bm (.cd .z .z) (bm (.bk (ai (ai (.sq (some [0,5,6,7,8,9]) (ai (.cd cR .z)) cR)))) cR)))))
def aav:An:=cR
def aaw:An:=ai (.bk (.lp [0,6,7,8] (ai (bm (.cd .z .z) (bm (.bk (ai (.sq (some [0,5,6,7,8]) (ai (.cd cR .z)) cR))) cR)))))
def aax:An:=.rg [] [] (some ⟨[(true,0),(true,1),(true,2),(true,3),(true,4),(true,5),(true,6),(true,7),(true,8),(false,9),(true,10),(true,11),(false,12)],[⟨16,1,0⟩,⟨32,1,0⟩,⟨64,32,2⟩,⟨128,64,4⟩,⟨256,128,8⟩,⟨512,2,0⟩,⟨1024,512,32⟩,⟨2048,1024,64⟩,⟨4096,2048,128⟩,⟨8192,4352,336⟩,⟨16384,16,1023⟩,⟨32768,16384,2047⟩,⟨0,40960,3071⟩]⟩)
def aay:An:=bm (ai (.cd (ai .z) .z)) (ai (ai cR))
def aaz:An:=ai (bm (ai (.bk (.lp [1,13] (ai (bm (.cd .z .z) (.bk (ai (ai (.bk (.lp [1,5,13,20] (ai (bm (.cd .z .z) (.bk (ai (ai (.cd (ai .z) .z)))))))))))))))) (bm (.bk (ai (.cd (ai .z) (ai (.cd (ai .z) (ai (.cd (ai .z) .z))))))) (ai .z)))
def aaA:An:=ai (.bk (.lp [0,2,8,9,10] (ai (bm (.cd .z .z) (bm (.bk (ai (ai cR))) cR)))))
def aaB:An:=ai (ai .z)
def aaC:An:=ai (bm (ai (.bk (.lp [0,1,7,8] (ai (bm (.cd .z .z) (bm (.bk (ai (ai (.cd (ai .z) .z)))) cR)))))) (ai .z))
def aaD:An:=ai (ai (bm (ai (ai (.cd (ai (ai (.sq (some [6]) (ai (.cd cR .z)) (ai .z)))) .z))) (bm (ai (.cd (ai (ai (ai .z))) .z)) (bm (ai (.cd (ai (ai (ai .z))) .z)) (ai (ai (.sq (some [9]) (ai (.cd (ai (ai cR)) .z)) (ai .z))))))))
def aaE:An:=ai (bm (ai (ai (.cd (ai .z) .z))) (ai .z))
def aaF:An:=ai (bm (.bk (ai (.cd (ai (ai (ai (ai (ai (ai .z)))))) (ai (.cd (ai (ai (ai (ai (ai (ai (ai (ai (ai (ai (ai .z))))))))))) .z))))) (ai .z))
def aaG:An:=ai (ai (ai (ai .z)))
section
variable (a0 a1 a2 a3 a4 a5 a6:AV) (R:cY->St->Prop) (U:St)
def JA:Prop :=
 (ak aE a1 U).wp K U (fun v6 U =>
 (aw .add aN true v6 (.int .i64 1)).wp K U (fun v7 U =>
 fy 4 [a0,a2,a3,v7] U fun lp v0 v2 v3 v5 U =>
 (ak aE v2 U).wp K U (fun v9 U =>
 (aw .lss aN false v5 v9).wp K U (fun v10 U =>
 ao K (aL v10 true) (af (some 0) v3) (fun v12 =>
 ao K (aL v10 true) (af (some 0) v12) (fun cz =>
 ao K (aL v10 true) (ak aE cz U) (fun cG =>
 ao K (aL v10 true) (aC.val v5) (fun cb =>
 ao K (aL v10 true) (aO (some (43,6)) none cG cb) (fun cU =>
 ao K (aL v10 true) (af (some 5) cU) (fun dM =>
 ao K (aL v10 true) (ak aE dM U) (fun cA =>
 ao K (aL v10 true) (aw .gtr aN true cA (.int .i64 0)) (fun de =>
 (bM v10 de (.bool false)).wp K U (fun v20 U =>
 av v20 (
 (jk K.P v0 [v5]).wp K U (fun fK U =>
 (ly .not fK).wp K U (fun fQ U =>
 av fQ (
 al R (.aH []) U) (
 (af (some 0) v3).wp K U (fun eo U =>
 (af (some 0) eo).wp K U (fun eL U =>
 (ak aE eL U).wp K U (fun v24 U =>
 (aO (some (43,6)) none v24 v5).wp K U (fun gm U =>
 (af (some 5) gm).wp K U (fun ef U =>
 (ak aE ef U).wp K U (fun v28 U =>
 (aw .add aN false v5 v28).wp K U (fun ep U =>
 lp v0 v2 v3 ep U) (aa R)) (aa R)) (aa R)) (aa R)) (aa R)) (aa R)) (aa R))) (aa R)) (aa R)) (
 al R (.aH []) U)) (aa R)))))))))) (aa R)) (aa R)) (aa R)) (aa R)
def RP:Prop :=
 (fZ a0).wp K U (fun v1 U =>
 (af (some 1) v1).wp K U (fun v6 U =>
 (ak aE v6 U).wp K U (fun v7 U =>
 ae K 77 [v7] U (ag (fun v8 U =>
 (aX v8 0).wp K U (fun v9 U =>
 (aX v8 1).wp K U (fun v10 U =>
 (aC.db [.int .u8 0,.str [],.int .i64 0]).wp K U (fun v3 U =>
 (aI (some (true,3)) v3 v9 U).wp K U (fun _ U =>
 (aw .eql aN true v10 (.int .i64 0)).wp K U (fun v12 U =>
 ao K (aL v12 true) (af (some 0) v3) (fun cG =>
 ao K (aL v12 true) (ak aE cG U) (fun cb =>
 ao K (aL v12 true) (af (some 0) v1) (fun cU =>
 ao K (aL v12 true) (ak aE cU U) (fun dM =>
 ao K (aL v12 true) (aw .eql aN false cb dM) (fun cA =>
 (bM v12 cA (.bool false)).wp K U (fun de U =>
 ao K (aL de true) (af (some 1) v3) (fun v21 =>
 ao K (aL de true) (ak aE v21 U) (fun eo =>
 ao K (aL de true) (af (some 1) v1) (fun eL =>
 ao K (aL de true) (ak aE eL U) (fun v24 =>
 ao K (aL de true) (aw .eql aN false eo v24) (fun eV =>
 (bM de eV (.bool false)).wp K U (fun gm U =>
 al R gm U) (aa R))))))) (aa R))))))) (aa R)) (aa R)) (aa R)) (aa R)) (aa R)) (aa R))) (aa R)) (aa R)) (aa R)
def RR:Prop :=
 ae K 99 [a0,(.int .u8 10)] U (ag (fun v7 U =>
 (ar (some (9,1)) (some [.str []]) 3 false [(0,(.str ox)),(1,(.str nP)),(2,(.str eG))]).wp K U (fun v8 U =>
 (cE (some false) v8).wp K U (fun v9 U =>
 fy 5 [a0,v7,v8,v9,(.int .i64 0)] U fun lp v0 v3 py ma v10 U =>
 (aw .lss aN false v10 ma).wp K U (fun v11 U =>
 av v11 (
 (aO (some (9,1)) none py v10).wp K U (fun v12 U =>
 (ak aE v12 U).wp K U (fun cz U =>
 ae K 102 [v0,cz] U (ag (fun cU U =>
 ae K 169 [v0] U (ag (fun de U =>
 (ar (some (87,1)) (some [.aW]) 1 false [(0,de)]).wp K U (fun v20 U =>
 ae K 103 [v3,v20] U (ag (fun v21 U =>
 (aw .add aN true v10 (.int .i64 1)).wp K U (fun eo U =>
 lp v0 v3 py ma eo U) (aa R)) (aa R))) (aa R)) (aa R))) (aa R))) (aa R)) (aa R)) (
 al R v3 U)) (aa R)) (aa R)) (aa R)) (aa R))
def RT:Prop :=
 ae K 99 [a0,(.int .u8 11)] U (ag (fun v7 U =>
 (ar (some (9,1)) (some [.str []]) 2 false [(0,(.str fX)),(1,(.str rP))]).wp K U (fun v8 U =>
 (cE (some false) v8).wp K U (fun v9 U =>
 fy 5 [a0,v7,v8,v9,(.int .i64 0)] U fun lp v0 v3 py ma v10 U =>
 (aw .lss aN false v10 ma).wp K U (fun v11 U =>
 av v11 (
 (aO (some (9,1)) none py v10).wp K U (fun v12 U =>
 (ak aE v12 U).wp K U (fun cz U =>
 ae K 102 [v0,cz] U (ag (fun cU U =>
 ae K 169 [v0] U (ag (fun de U =>
 (ar (some (87,1)) (some [.aW]) 1 false [(0,de)]).wp K U (fun v20 U =>
 ae K 103 [v3,v20] U (ag (fun v21 U =>
 (aw .add aN true v10 (.int .i64 1)).wp K U (fun eo U =>
 lp v0 v3 py ma eo U) (aa R)) (aa R))) (aa R)) (aa R))) (aa R))) (aa R)) (aa R)) (
 al R v3 U)) (aa R)) (aa R)) (aa R)) (aa R))
def RV:Prop :=
 ae K 99 [a0,(.int .u8 12)] U (ag (fun v5 U =>
 ae K 102 [a0,(.str lh)] U (ag (fun v7 U =>
 ae K 101 [a0] U (ag (fun v10 U =>
 (aV v5).wp K U (fun v11 U =>
 (af (some 0) v11).wp K U (fun v12 U =>
 (af (some 1) v12).wp K U (fun cz U =>
 (aI aE cz v10 U).wp K U (fun _ U =>
 ae K 102 [a0,(.str cW)] U (ag (fun cb U =>
 ae K 168 [a0] U (ag (fun cA U =>
 (aV v5).wp K U (fun de U =>
 (af (some 0) de).wp K U (fun v20 U =>
 (af (some 2) v20).wp K U (fun v21 U =>
 (aI aE v21 cA U).wp K U (fun _ U =>
 ae K 102 [a0,(.str bL)] U (ag (fun eL U =>
 ae K 168 [a0] U (ag (fun gm U =>
 (aV v5).wp K U (fun ef U =>
 (af (some 0) ef).wp K U (fun v28 U =>
 (af (some 3) v28).wp K U (fun ep U =>
 (aI aE ep gm U).wp K U (fun _ U =>
 ae K 102 [a0,(.str jJ)] U (ag (fun v31 U =>
 ae K 169 [a0] U (ag (fun iK U =>
 (ar (some (87,1)) (some [.aW]) 1 false [(0,iK)]).wp K U (fun hY U =>
 ae K 103 [v5,hY] U (ag (fun hZ U =>
 al R hZ U) (aa R))) (aa R)) (aa R))) (aa R))) (aa R)) (aa R)) (aa R)) (aa R)) (aa R))) (aa R))) (aa R)) (aa R)) (aa R)) (aa R)) (aa R))) (aa R))) (aa R)) (aa R)) (aa R)) (aa R)) (aa R))) (aa R))) (aa R))
def RX:Prop :=
 ae K 99 [a0,(.int .u8 13)] U (ag (fun v5 U =>
 ae K 102 [a0,(.str il)] U (ag (fun v7 U =>
 ae K 101 [a0] U (ag (fun v10 U =>
 (aV v5).wp K U (fun v11 U =>
 (af (some 0) v11).wp K U (fun v12 U =>
 (af (some 1) v12).wp K U (fun cz U =>
 (aI aE cz v10 U).wp K U (fun _ U =>
 ae K 102 [a0,(.str jJ)] U (ag (fun cb U =>
 ae K 169 [a0] U (ag (fun cA U =>
 (ar (some (87,1)) (some [.aW]) 1 false [(0,cA)]).wp K U (fun de U =>
 ae K 103 [v5,de] U (ag (fun v20 U =>
 ae K 102 [a0,(.str eG)] U (ag (fun eo U =>
 ae K 169 [a0] U (ag (fun eV U =>
 (ar (some (87,1)) (some [.aW]) 1 false [(0,eV)]).wp K U (fun gm U =>
 ae K 103 [v5,gm] U (ag (fun ef U =>
 al R ef U) (aa R))) (aa R)) (aa R))) (aa R))) (aa R))) (aa R)) (aa R))) (aa R))) (aa R)) (aa R)) (aa R)) (aa R)) (aa R))) (aa R))) (aa R))
def RZ:Prop :=
 ae K 99 [a0,(.int .u8 15)] U (ag (fun v5 U =>
 ae K 102 [a0,(.str gH)] U (ag (fun v7 U =>
 ae K 169 [a0] U (ag (fun v10 U =>
 (ar (some (87,1)) (some [.aW]) 1 false [(0,v10)]).wp K U (fun v11 U =>
 ae K 103 [v5,v11] U (ag (fun v12 U =>
 ae K 102 [a0,(.str eG)] U (ag (fun cG U =>
 ae K 169 [a0] U (ag (fun dM U =>
 (ar (some (87,1)) (some [.aW]) 1 false [(0,dM)]).wp K U (fun cA U =>
 ae K 103 [v5,cA] U (ag (fun de U =>
 al R de U) (aa R))) (aa R)) (aa R))) (aa R))) (aa R))) (aa R)) (aa R))) (aa R))) (aa R))
def R1:Prop :=
 ae K 99 [a0,(.int .u8 14)] U (ag (fun v5 U =>
 ae K 102 [a0,(.str ig)] U (ag (fun v7 U =>
 ae K 101 [a0] U (ag (fun v10 U =>
 (aV v5).wp K U (fun v11 U =>
 (af (some 0) v11).wp K U (fun v12 U =>
 (af (some 1) v12).wp K U (fun cz U =>
 (aI aE cz v10 U).wp K U (fun _ U =>
 ae K 102 [a0,(.str bL)] U (ag (fun cb U =>
 ae K 168 [a0] U (ag (fun cA U =>
 (aV v5).wp K U (fun de U =>
 (af (some 0) de).wp K U (fun v20 U =>
 (af (some 2) v20).wp K U (fun v21 U =>
 (aI aE v21 cA U).wp K U (fun _ U =>
 ae K 102 [a0,(.str jJ)] U (ag (fun eL U =>
 ae K 169 [a0] U (ag (fun gm U =>
 (ar (some (87,1)) (some [.aW]) 1 false [(0,gm)]).wp K U (fun ef U =>
 ae K 103 [v5,ef] U (ag (fun v28 U =>
 al R v28 U) (aa R))) (aa R)) (aa R))) (aa R))) (aa R)) (aa R)) (aa R)) (aa R)) (aa R))) (aa R))) (aa R)) (aa R)) (aa R)) (aa R)) (aa R))) (aa R))) (aa R))
def R3:Prop :=
 (fun au:St =>
 aB K (aV a0) (fun v4 =>
 aB K (af (some 1) v4) (fun v5 =>
 aB K (ak aE v5 au) (fun v6 =>
 aB K (aV a0) (fun v8 =>
 aB K (af (some 0) v8) (fun v9 =>
 aB K (ak aE v9 au) (fun v10 =>
 aB K (cE (some false) v10) (fun v11 =>
 aB K (aw .lss aN false v6 v11) (fun v12 =>
 av v12 (
 (fun qu:St =>
 aB K (aV a0) (fun cG =>
 aB K (af (some 0) cG) (fun cb =>
 aB K (ak aE cb qu) (fun cU =>
 aB K (aV a0) (fun cA =>
 aB K (af (some 1) cA) (fun de =>
 aB K (ak aE de qu) (fun v20 =>
 aB K (aO (some (51,3)) none cU v20) (fun v21 =>
 aB K (af (some 2) v21) (fun eo =>
 aB K (ak aE eo qu) (fun eL =>
 al R eL U)))))))))) U) (
 (aV a0).wp K U (fun eV U =>
 (af (some 2) eV).wp K U (fun gm U =>
 (ak aE gm U).wp K U (fun ef U =>
 al R ef U) (aa R)) (aa R)) (aa R))))))))))) U
def ab3:Prop :=
 ae K 167 [a0,(.int .i64 0)] U (ag (fun v7 U =>
 (aC.db [.int .u8 0,.str [],.int .i64 0]).wp K U (fun v5 U =>
 (aI (some (true,3)) v5 v7 U).wp K U (fun _ U =>
 jL 2 (fun v0 yB U =>
 (aV v0).wp K U (fun cb U =>
 (af (some 1) cb).wp K U (fun cU U =>
 (ak aE cU U).wp K U (fun dM U =>
 (aw .add aN true dM (.int .i64 1)).wp K U (fun cA U =>
 (aV v0).wp K U (fun de U =>
 (af (some 1) de).wp K U (fun v20 U =>
 (aI aE v20 cA U).wp K U (fun _ U =>
 (af (some 1) yB).wp K U (fun v21 U =>
 (ak aE v21 U).wp K U (fun eo U =>
 al R eo U) (aa R)) (aa R)) (aa R)) (aa R)) (aa R)) (aa R)) (aa R)) (aa R)) (aa R)) fun j =>
 (af (some 0) v5).wp K U (fun v8 U =>
 (ak aE v8 U).wp K U (fun v9 U =>
 (aw .neq aN false v9 a1).wp K U (fun v11 U =>
 av v11 (
 ae K 166 [a0] U (ag (fun cz U =>
 j a0 v5 U) (aa R))) (
 j a0 v5 U)) (aa R)) (aa R)) (aa R)) (aa R)) (aa R)) (aa R))
def ab4:Prop :=
 ae K 164 [a0] U (ag (fun v3 U =>
 (ek (some [(0,1)]) (some [.int .i64 0]) none [(0,v3)]).wp K U (fun v4 U =>
 (x9 true 136 v4).wp K U (fun v5 U =>
 (uG v5).wp K U (fun _ U =>
 al R (.aH []) U) (aa R)) (aa R)) (aa R)) (aa R))
def R7:Prop :=
 (aC.db [.int .u8 0,.str [],.int .i64 0]).wp K U (fun v4 U =>
 (fun au:St =>
 aB K (aV a0) (fun v6 =>
 aB K (af (some 1) v6) (fun v7 =>
 aB K (ak aE v7 au) (fun v8 =>
 aB K (aw .add aN false v8 a1) (fun v10 =>
 aB K (aV a0) (fun v12 =>
 aB K (af (some 0) v12) (fun cz =>
 aB K (ak aE cz au) (fun cG =>
 aB K (cE (some false) cG) (fun cb =>
 aB K (aw .lss aN false v10 cb) (fun cU =>
 av cU (
 (fun qu:St =>
 aB K (aV a0) (fun cA =>
 aB K (af (some 0) cA) (fun de =>
 aB K (ak aE de qu) (fun v20 =>
 aB K (aV a0) (fun eo =>
 aB K (af (some 1) eo) (fun eL =>
 aB K (ak aE eL qu) (fun v24 =>
 aB K (aw .add aN false v24 a1) (fun gm =>
 aB K (aO (some (51,3)) none v20 gm) (fun ef =>
 aB K (ak (some (true,3)) ef qu) (fun v28 =>
 (aI (some (true,3)) v4 v28 U).wp K U (fun _ U =>
 bF (some (true,3)) v4 U fun r0 =>
 al R r0 U) (aa R))))))))))) U) (
 (ek (some [(0,1),(1,1),(2,1)]) (some [.int .u8 0,.str [],.int .i64 0]) none []).wp K U (fun ep U =>
 (aI (some (true,3)) v4 ep U).wp K U (fun _ U =>
 bF (some (true,3)) v4 U fun po =>
 al R po U) (aa R)) (aa R)))))))))))) U) (aa R)
def ab5:Prop :=
 ae K 165 [a0,(.int .u8 2)] U (ag (fun v7 U =>
 ae K 218 [v7] U (ag (fun v8 U =>
 (aX v8 0).wp K U (fun v9 U =>
 (aX v8 1).wp K U (fun v10 U =>
 jL 1 (fun v3 U =>
 al R v3 U) fun j =>
 (aw .neq (BT.mk false true false none false) true v10 .dq).wp K U (fun v12 U =>
 av v12 (
 ae K 166 [a0] U (ag (fun cG U =>
 j v9 U) (aa R))) (
 j v9 U)) (aa R)) (aa R)) (aa R)) (aa R))) (aa R))
def Sa:Prop :=
 ae K 167 [a0,(.int .i64 0)] U (ag (fun v8 U =>
 (aC.db [.int .u8 0,.str [],.int .i64 0]).wp K U (fun v3 U =>
 (aI (some (true,3)) v3 v8 U).wp K U (fun _ U =>
 (fun au:St =>
 aB K (aV a0) (fun v11 =>
 aB K (af (some 4) v11) (fun v12 =>
 aB K (ak aE v12 au) (fun cz =>
 aB K (af (some 1) v3) (fun cG =>
 aB K (ak aE cG au) (fun cb =>
 aB K (eB (some (.s,186)) (some .dV) cz cb true au) (fun cU =>
 aB K (aX cU 0) (fun dM =>
 aB K (aX cU 1) (fun cA =>
 ao K (aL cA true) (af (some 0) v3) (fun v21 =>
 ao K (aL cA true) (ak aE v21 U) (fun eo =>
 ao K (aL cA true) (aw .eql aN true eo (.int .u8 3)) (fun eL =>
 (bM cA eL (.bool false)).wp K U (fun v24 U =>
 av v24 (
 (jk K.P dM [a0]).wp K U (fun ef U =>
 al R ef U) (aa R)) (
 jL 2 (fun v0 hZ U =>
 av hZ (
 ae K 99 [v0,(.int .u8 16)] U (ag (fun gU U =>
 ae K 101 [v0] U (ag (fun j0 U =>
 (aV gU).wp K U (fun lz U =>
 (af (some 0) lz).wp K U (fun jF U =>
 (af (some 1) jF).wp K U (fun nL U =>
 (aI aE nL j0 U).wp K U (fun _ U =>
 ae K 102 [v0,(.str bL)] U (ag (fun v46 U =>
 ae K 169 [v0] U (ag (fun v49 U =>
 (ar (some (87,1)) (some [.aW]) 1 false [(0,v49)]).wp K U (fun ky U =>
 ae K 103 [gU,ky] U (ag (fun v51 U =>
 al R v51 U) (aa R))) (aa R)) (aa R))) (aa R))) (aa R)) (aa R)) (aa R)) (aa R)) (aa R))) (aa R))) (
 ae K 219 [v0,(.int .i64 2)] U (ag (fun v53 U =>
 al R v53 U) (aa R)))) fun j =>
 (af (some 0) v3).wp K U (fun v28 U =>
 (ak aE v28 U).wp K U (fun ep U =>
 (aw .eql aN true ep (.int .u8 1)).wp K U (fun v30 U =>
 ao K (aL v30 true) (aC.val a0) (fun fK =>
 av (aL v30 true) (
 ae K 167 [fK,(.int .i64 1)] U (ag (fun fQ U =>
 ao K (aL v30 true) (ar (some (9,1)) (some [.str []]) 1 false [(0,(.str bL))]) (fun iK =>
 ao K (aL v30 true) (aC.enter 121 [fQ,iK]) (fun hY =>
 (bM v30 hY (.bool false)).wp K U (fun qp U =>
 j a0 qp U) (aa R)))) (aa R))) (
 ao K (aL v30 true) (ar (some (9,1)) (some [.str []]) 1 false [(0,(.str bL))]) (fun DV =>
 ao K (aL v30 true) (aC.enter 121 [(.aH []),DV]) (fun DW =>
 (bM v30 DW (.bool false)).wp K U (fun aeo U =>
 j a0 aeo U) (aa R)))))) (aa R)) (aa R)) (aa R))) (aa R))))))))))))) U) (aa R)) (aa R)) (aa R))
def ab6:Prop :=
 ae K 230 [a0,a1] U (ag (fun v7 U =>
 (aw .geq aN true v7 (.int .i64 0)).wp K U (fun v8 U =>
 al R v8 U) (aa R)) (aa R))
def Sd:Prop :=
 (aw .geq aN true a0 (.int .u8 2)).wp K U (fun v4 U =>
 ao K (aL v4 true) (aC.val a0) (fun v6 =>
 ao K (aL v4 true) (aw .leq aN true v6 (.int .u8 4)) (fun v7 =>
 (bM v4 v7 (.bool false)).wp K U (fun v8 U =>
 al R v8 U) (aa R)))) (aa R)
def Sf:Prop :=
 (fZ a1).wp K U (fun v4 U =>
 (aC.vu).wp K U (fun v8 U =>
 (dW (some (.i,9)) v8 (.int .u8 2) (.str dI) U).wp K U (fun _ U =>
 (dW (some (.i,9)) v8 (.int .u8 3) (.str fH) U).wp K U (fun _ U =>
 (dW (some (.i,9)) v8 (.int .u8 4) (.str dz) U).wp K U (fun _ U =>
 (af (some 0) v4).wp K U (fun v10 U =>
 (ak aE v10 U).wp K U (fun v11 U =>
 (eB (some (.i,9)) (some (.str [])) v8 v11 false U).wp K U (fun v12 U =>
 (ar (some (9,1)) (some [.str []]) 1 false [(0,v12)]).wp K U (fun cz U =>
 ae K 231 [a0,cz] U (ag (fun cG U =>
 (af (some 1) v4).wp K U (fun cU U =>
 (ak aE cU U).wp K U (fun dM U =>
 ae K 232 [a0,dM] U (ag (fun cA U =>
 jL 1 (fun v0 U =>
 (ar (some (9,1)) (some [.str []]) 1 false [(0,(.str cn))]).wp K U (fun nX U =>
 ae K 231 [v0,nX] U (ag (fun uS U =>
 al R (.aH []) U) (aa R))) (aa R)) fun j =>
 (af (some 0) v4).wp K U (fun de U =>
 (ak aE de U).wp K U (fun v20 U =>
 (aw .eql aN true v20 (.int .u8 2)).wp K U (fun v21 U =>
 av v21 (
 (ar (some (9,1)) (some [.str []]) 1 false [(0,(.str cW))]).wp K U (fun eL U =>
 ae K 231 [a0,eL] U (ag (fun v24 U =>
 (aO (some (3,1)) none a2 (.int .i64 0)).wp K U (fun ef U =>
 (ak aE ef U).wp K U (fun v28 U =>
 ae K 123 [a0,v28] U (ag (fun ep U =>
 j a0 U) (aa R))) (aa R)) (aa R)) (aa R))) (aa R)) (
 (cE (some false) a2).wp K U (fun v31 U =>
 (aw .sub aN true v31 (.int .i64 2)).wp K U (fun fK U =>
 (ar (some (9,1)) (some [.str []]) 1 false [(0,(.str cB))]).wp K U (fun iK U =>
 ae K 231 [a0,iK] U (ag (fun hY U =>
 (fI false (some (3,1)) a2 none (some fK)).wp K U (fun l8 U =>
 ae K 233 [a0,l8] U (ag (fun v40 U =>
 (ar (some (9,1)) (some [.str []]) 2 false [(0,(.str cg)),(1,(.str cW))]).wp K U (fun lz U =>
 ae K 231 [a0,lz] U (ag (fun jF U =>
 (aO (some (3,1)) none a2 fK).wp K U (fun nM U =>
 (ak aE nM U).wp K U (fun rX U =>
 ae K 123 [a0,rX] U (ag (fun v49 U =>
 (ar (some (9,1)) (some [.str []]) 1 false [(0,(.str gk))]).wp K U (fun v51 U =>
 ae K 231 [a0,v51] U (ag (fun nN U =>
 (aw .add aN true fK (.int .i64 1)).wp K U (fun mE U =>
 (aO (some (3,1)) none a2 mE).wp K U (fun q9 U =>
 (ak aE q9 U).wp K U (fun pa U =>
 ae K 123 [a0,pa] U (ag (fun v59 U =>
 j a0 U) (aa R))) (aa R)) (aa R)) (aa R)) (aa R))) (aa R)) (aa R))) (aa R)) (aa R)) (aa R))) (aa R)) (aa R))) (aa R)) (aa R))) (aa R)) (aa R)) (aa R))) (aa R)) (aa R)) (aa R)) (aa R))) (aa R)) (aa R)) (aa R))) (aa R)) (aa R)) (aa R)) (aa R)) (aa R)) (aa R)) (aa R)) (aa R)) (aa R)
def Sh:Prop :=
 ae K 206 [a0] U (ag (fun v4 U =>
 ao K (aL v4 false) (aC.val a0) (fun v6 =>
 ao K (aL v4 false) (aw .eql aN true v6 (.int .u8 8)) (fun v7 =>
 (bM v4 (.bool true) v7).wp K U (fun v8 U =>
 al R v8 U) (aa R)))) (aa R))
def JB:Prop :=
 (fZ a1).wp K U (fun v4 U =>
 (af (some 0) v4).wp K U (fun v20 U =>
 (ak aE v20 U).wp K U (fun v21 U =>
 (aw .eql aN true v21 (.int .u8 8)).wp K U (fun eo U =>
 av eo (
 (cE (some false) a2).wp K U (fun v24 U =>
 (aw .sub aN true v24 (.int .i64 1)).wp K U (fun eV U =>
 (ar (some (9,1)) (some [.str []]) 1 false [(0,(.str cB))]).wp K U (fun ef U =>
 ae K 231 [a0,ef] U (ag (fun v28 U =>
 (fI false (some (3,1)) a2 none (some eV)).wp K U (fun fK U =>
 ae K 233 [a0,fK] U (ag (fun fQ U =>
 (ar (some (9,1)) (some [.str []]) 2 false [(0,(.str cg)),(1,(.str fF))]).wp K U (fun hY U =>
 ae K 231 [a0,hY] U (ag (fun hZ U =>
 (aO (some (3,1)) none a2 eV).wp K U (fun v40 U =>
 (ak aE v40 U).wp K U (fun j0 U =>
 ae K 123 [a0,j0] U (ag (fun lz U =>
 al R (.aH []) U) (aa R))) (aa R)) (aa R)) (aa R))) (aa R)) (aa R))) (aa R)) (aa R))) (aa R)) (aa R)) (aa R)) (
 (af (some 0) v4).wp K U (fun nL U =>
 (ak aE nL U).wp K U (fun oF U =>
 (aw .eql aN true oF (.int .u8 6)).wp K U (fun v46 U =>
 ao K (aL v46 true) (af (some 2) v4) (fun rX =>
 ao K (aL v46 true) (ak aE rX U) (fun v49 =>
 ao K (aL v46 true) (aw .eql aN true v49 (.int .i64 1)) (fun ky =>
 (bM v46 ky (.bool false)).wp K U (fun v51 U =>
 av v51 (
 (ar (some (9,1)) (some [.str []]) 1 false [(0,(.str pb))]).wp K U (fun v53 U =>
 ae K 231 [a0,v53] U (ag (fun nO U =>
 al R (.aH []) U) (aa R))) (aa R)) (
 (af (some 0) v4).wp K U (fun mE U =>
 (ak aE mE U).wp K U (fun q9 U =>
 (aw .eql aN true q9 (.int .u8 6)).wp K U (fun pa U =>
 ao K (aL pa true) (af (some 2) v4) (fun uR =>
 ao K (aL pa true) (ak aE uR U) (fun nX =>
 ao K (aL pa true) (aw .eql aN true nX (.int .i64 2)) (fun uS =>
 (bM pa uS (.bool false)).wp K U (fun qi U =>
 av qi (
 (ar (some (9,1)) (some [.str []]) 1 false [(0,(.str kT))]).wp K U (fun rY U =>
 ae K 231 [a0,rY] U (ag (fun uT U =>
 al R (.aH []) U) (aa R))) (aa R)) (
 (aC.vu).wp K U (fun v8 U =>
 (dW (some (.i,9)) v8 (.int .u8 6) (.str gy) U).wp K U (fun _ U =>
 (dW (some (.i,9)) v8 (.int .u8 7) (.str jR) U).wp K U (fun _ U =>
 (af (some 0) v4).wp K U (fun v10 U =>
 (ak aE v10 U).wp K U (fun v11 U =>
 (eB (some (.i,9)) (some (.str [])) v8 v11 false U).wp K U (fun v12 U =>
 (ar (some (9,1)) (some [.str []]) 1 false [(0,v12)]).wp K U (fun cz U =>
 ae K 231 [a0,cz] U (ag (fun cG U =>
 (af (some 2) v4).wp K U (fun cU U =>
 (ak aE cU U).wp K U (fun dM U =>
 ae K 234 [a0,dM] U (ag (fun cA U =>
 al R (.aH []) U) (aa R))) (aa R)) (aa R)) (aa R))) (aa R)) (aa R)) (aa R)) (aa R)) (aa R)) (aa R)) (aa R))) (aa R))))) (aa R)) (aa R)) (aa R))) (aa R))))) (aa R)) (aa R)) (aa R))) (aa R)) (aa R)) (aa R)) (aa R)
def JC:Prop :=
 (fZ a1).wp K U (fun v4 U =>
 (af (some 0) v4).wp K U (fun v10 U =>
 (ak aE v10 U).wp K U (fun v11 U =>
 (aw .eql aN true v11 (.int .u8 19)).wp K U (fun v12 U =>
 av v12 (
 (ar (some (9,1)) (some [.str []]) 1 false [(0,(.str pK))]).wp K U (fun cG U =>
 ae K 231 [a0,cG] U (ag (fun cb U =>
 (aO (some (3,1)) none a2 (.int .i64 0)).wp K U (fun cA U =>
 (ak aE cA U).wp K U (fun de U =>
 ae K 235 [a0,de,(.int .i64 4)] U (ag (fun v20 U =>
 al R (.aH []) U) (aa R))) (aa R)) (aa R)) (aa R))) (aa R)) (
 (af (some 0) v4).wp K U (fun eo U =>
 (ak aE eo U).wp K U (fun eL U =>
 ae K 236 [a0,eL] U (ag (fun v24 U =>
 jL 5 (fun v0 v2 oX v6 v7 U =>
 (aO (some (3,1)) none v2 (.int .i64 0)).wp K U (fun fK U =>
 (ak aE fK U).wp K U (fun fQ U =>
 ae K 235 [v0,fQ,v7] U (ag (fun hY U =>
 (aV v0).wp K U (fun v37 U =>
 (af (some 2) v37).wp K U (fun gU U =>
 (ak aE gU U).wp K U (fun l8 U =>
 (eB (some (.i,185)) (some .jO) l8 v6 false U).wp K U (fun j0 U =>
 (uJ (some (.s,5)) j0).wp K U (fun lz U =>
 fy 5 [v0,v2,oX,v6,lz] U fun lp gZ lg On px AY U =>
 (sL AY U).wp K U (fun jF U =>
 (aX jF 0).wp K U (fun nL U =>
 av nL (
 (nu AY U).wp K U (fun oF U =>
 (aX oF 0).wp K U (fun v46 U =>
 (aX oF 1).wp K U (fun nM U =>
 (af (some 0) On).wp K U (fun v49 U =>
 (ak aE v49 U).wp K U (fun ky U =>
 (aw .eql aN false nM ky).wp K U (fun v51 U =>
 av v51 (
 (ar (some (9,1)) (some [.str []]) 1 false [(0,v46)]).wp K U (fun nO U =>
 ae K 231 [gZ,nO] U (ag (fun oG U =>
 lp gZ lg On px AY U) (aa R))) (aa R)) (
 lp gZ lg On px AY U)) (aa R)) (aa R)) (aa R)) (aa R)) (aa R)) (aa R)) (
 (aw .eql aN true px (.int .i64 8)).wp K U (fun q9 U =>
 av q9 (
 (af (some 2) On).wp K U (fun v59 U =>
 (ak aE v59 U).wp K U (fun uR U =>
 ae K 234 [gZ,uR] U (ag (fun nX U =>
 al R (.aH []) U) (aa R))) (aa R)) (aa R)) (
 (aO (some (3,1)) none lg (.int .i64 1)).wp K U (fun tc U =>
 (ak aE tc U).wp K U (fun rY U =>
 (aw .add aN true px (.int .i64 1)).wp K U (fun tH U =>
 ae K 235 [gZ,rY,tH] U (ag (fun xn U =>
 al R (.aH []) U) (aa R))) (aa R)) (aa R)) (aa R))) (aa R))) (aa R)) (aa R)) (aa R)) (aa R)) (aa R)) (aa R)) (aa R)) (aa R))) (aa R)) (aa R)) fun j =>
 (aw .eql aN true v24 (.int .i64 5)).wp K U (fun ef U =>
 av ef (
 (aw .add aN true v24 (.int .i64 1)).wp K U (fun ep U =>
 j a0 a2 v4 v24 ep U) (aa R)) (
 j a0 a2 v4 v24 v24 U)) (aa R)) (aa R))) (aa R)) (aa R))) (aa R)) (aa R)) (aa R)) (aa R)
def s9:Prop :=
 (fZ a1).wp K U (fun v4 U =>
 (af (some 0) v4).wp K U (fun v8 U =>
 (ak aE v8 U).wp K U (fun v9 U =>
 (aw .eql aN true v9 (.int .u8 9)).wp K U (fun v11 U =>
 av v11 (
 (aO (some (3,1)) none a2 (.int .i64 0)).wp K U (fun cG U =>
 (ak aE cG U).wp K U (fun cb U =>
 ae K 235 [a0,cb,(.int .i64 1)] U (ag (fun cU U =>
 (fI false (some (3,1)) a2 (some (.int .i64 1)) none).wp K U (fun cA U =>
 (cE (some false) cA).wp K U (fun de U =>
 fy 4 [a0,cA,de,(.int .i64 0)] U fun lp v0 XO XP v20 U =>
 (aw .lss aN false v20 XP).wp K U (fun v21 U =>
 av v21 (
 (aO (some (3,1)) none XO v20).wp K U (fun eo U =>
 (ak aE eo U).wp K U (fun eL U =>
 (ar (some (3,1)) (some [.int .i64 0]) 1 false [(0,eL)]).wp K U (fun gm U =>
 (ar (some (9,1)) (some [.str []]) 1 false [(0,(.str cn))]).wp K U (fun ef U =>
 ae K 237 [v0,gm,ef] U (ag (fun v28 U =>
 (aw .add aN true v20 (.int .i64 1)).wp K U (fun ep U =>
 lp v0 XO XP ep U) (aa R)) (aa R))) (aa R)) (aa R)) (aa R)) (aa R)) (
 al R (.aH []) U)) (aa R)) (aa R)) (aa R)) (aa R))) (aa R)) (aa R)) (
 (aw .eql aN true v9 (.int .u8 10)).wp K U (fun v31 U =>
 av v31 (
 (ar (some (9,1)) (some [.str []]) 3 false [(0,(.str ox)),(1,(.str nP)),(2,(.str eG))]).wp K U (fun iK U =>
 ae K 237 [a0,a2,iK] U (ag (fun hY U =>
 al R (.aH []) U) (aa R))) (aa R)) (
 (aw .eql aN true v9 (.int .u8 11)).wp K U (fun v37 U =>
 av v37 (
 (ar (some (9,1)) (some [.str []]) 2 false [(0,(.str fX)),(1,(.str rP))]).wp K U (fun v40 U =>
 ae K 237 [a0,a2,v40] U (ag (fun j0 U =>
 al R (.aH []) U) (aa R))) (aa R)) (
 (aw .eql aN true v9 (.int .u8 15)).wp K U (fun jF U =>
 av jF (
 (ar (some (9,1)) (some [.str []]) 2 false [(0,(.str gH)),(1,(.str eG))]).wp K U (fun v46 U =>
 ae K 237 [a0,a2,v46] U (ag (fun nM U =>
 al R (.aH []) U) (aa R))) (aa R)) (
 (aw .eql aN true v9 (.int .u8 12)).wp K U (fun v49 U =>
 av v49 (
 (ar (some (9,1)) (some [.str []]) 1 false [(0,(.str lh))]).wp K U (fun v51 U =>
 ae K 231 [a0,v51] U (ag (fun nN U =>
 (af (some 1) v4).wp K U (fun nO U =>
 (ak aE nO U).wp K U (fun oG U =>
 ae K 232 [a0,oG] U (ag (fun mE U =>
 (ar (some (9,1)) (some [.str []]) 1 false [(0,(.str cW))]).wp K U (fun pa U =>
 ae K 231 [a0,pa] U (ag (fun v59 U =>
 (af (some 2) v4).wp K U (fun nX U =>
 (ak aE nX U).wp K U (fun uS U =>
 ae K 234 [a0,uS] U (ag (fun qi U =>
 (ar (some (9,1)) (some [.str []]) 1 false [(0,(.str bL))]).wp K U (fun rY U =>
 ae K 231 [a0,rY] U (ag (fun uT U =>
 (af (some 3) v4).wp K U (fun xn U =>
 (ak aE xn U).wp K U (fun Al U =>
 ae K 234 [a0,Al] U (ag (fun v70 U =>
 (ar (some (9,1)) (some [.str []]) 1 false [(0,(.str jJ))]).wp K U (fun BM U =>
 ae K 237 [a0,a2,BM] U (ag (fun td U =>
 al R (.aH []) U) (aa R))) (aa R)) (aa R))) (aa R)) (aa R)) (aa R))) (aa R)) (aa R))) (aa R)) (aa R)) (aa R))) (aa R)) (aa R))) (aa R)) (aa R)) (aa R))) (aa R)) (
 (aw .eql aN true v9 (.int .u8 13)).wp K U (fun v76 U =>
 av v76 (
 (ar (some (9,1)) (some [.str []]) 1 false [(0,(.str il))]).wp K U (fun BO U =>
 ae K 231 [a0,BO] U (ag (fun DX U =>
 (af (some 1) v4).wp K U (fun Mo U =>
 (ak aE Mo U).wp K U (fun GB U =>
 ae K 232 [a0,GB] U (ag (fun v83 U =>
 (ar (some (9,1)) (some [.str []]) 2 false [(0,(.str jJ)),(1,(.str eG))]).wp K U (fun v86 U =>
 ae K 237 [a0,a2,v86] U (ag (fun v87 U =>
 al R (.aH []) U) (aa R))) (aa R)) (aa R))) (aa R)) (aa R)) (aa R))) (aa R)) (
 (aw .eql aN true v9 (.int .u8 16)).wp K U (fun v89 U =>
 av v89 (
 (af (some 1) v4).wp K U (fun v91 U =>
 (ak aE v91 U).wp K U (fun v92 U =>
 ae K 232 [a0,v92] U (ag (fun v93 U =>
 (ar (some (9,1)) (some [.str []]) 1 false [(0,(.str bL))]).wp K U (fun XS U =>
 ae K 237 [a0,a2,XS] U (ag (fun v97 U =>
 al R (.aH []) U) (aa R))) (aa R)) (aa R))) (aa R)) (aa R)) (
 (aw .eql aN true v9 (.int .u8 14)).wp K U (fun v99 U =>
 av v99 (
 (ar (some (9,1)) (some [.str []]) 1 false [(0,(.str ig))]).wp K U (fun VW U =>
 ae K 231 [a0,VW] U (ag (fun acn U =>
 (af (some 1) v4).wp K U (fun VX U =>
 (ak aE VX U).wp K U (fun v105 U =>
 ae K 232 [a0,v105] U (ag (fun aco U =>
 (ar (some (9,1)) (some [.str []]) 1 false [(0,(.str bL))]).wp K U (fun agh U =>
 ae K 231 [a0,agh] U (ag (fun v109 U =>
 (af (some 2) v4).wp K U (fun VY U =>
 (ak aE VY U).wp K U (fun VZ U =>
 ae K 234 [a0,VZ] U (ag (fun ag6 U =>
 (ar (some (9,1)) (some [.str []]) 1 false [(0,(.str jJ))]).wp K U (fun V4 U =>
 ae K 237 [a0,a2,V4] U (ag (fun v117 U =>
 al R (.aH []) U) (aa R))) (aa R)) (aa R))) (aa R)) (aa R)) (aa R))) (aa R)) (aa R))) (aa R)) (aa R)) (aa R))) (aa R)) (
 al R (.aH []) U)) (aa R))) (aa R))) (aa R))) (aa R))) (aa R))) (aa R))) (aa R))) (aa R)) (aa R)) (aa R)) (aa R)
def Sj:Prop :=
 (aw .geq aN true a0 (.int .u8 9)).wp K U (fun v4 U =>
 ao K (aL v4 true) (aC.val a0) (fun v6 =>
 ao K (aL v4 true) (aw .leq aN true v6 (.int .u8 34)) (fun v7 =>
 (bM v4 v7 (.bool false)).wp K U (fun v8 U =>
 al R v8 U) (aa R)))) (aa R)
def uL:Prop :=
 (fZ a1).wp K U (fun v4 U =>
 (af (some 0) v4).wp K U (fun v6 U =>
 (ak aE v6 U).wp K U (fun v7 U =>
 (aw .eql aN true v7 (.int .u8 26)).wp K U (fun dM U =>
 av dM (
 (af (some 2) v4).wp K U (fun de U =>
 (ak aE de U).wp K U (fun v20 U =>
 ae K 234 [a0,v20] U (ag (fun v21 U =>
 al R (.aH []) U) (aa R))) (aa R)) (aa R)) (
 (aw .eql aN true v7 (.int .u8 31)).wp K U (fun eL U =>
 av eL (
 (ar (some (9,1)) (some [.str []]) 1 false [(0,(.str jS))]).wp K U (fun eV U =>
 ae K 231 [a0,eV] U (ag (fun gm U =>
 (af (some 1) v4).wp K U (fun v28 U =>
 (ak aE v28 U).wp K U (fun ep U =>
 ae K 232 [a0,ep] U (ag (fun v30 U =>
 al R (.aH []) U) (aa R))) (aa R)) (aa R)) (aa R))) (aa R)) (
 (aw .eql aN true v7 (.int .u8 32)).wp K U (fun fK U =>
 av fK (
 (ar (some (9,1)) (some [.str []]) 1 false [(0,(.str lZ))]).wp K U (fun iK U =>
 ae K 231 [a0,iK] U (ag (fun hY U =>
 (af (some 1) v4).wp K U (fun v37 U =>
 (ak aE v37 U).wp K U (fun gU U =>
 ae K 232 [a0,gU] U (ag (fun l8 U =>
 al R (.aH []) U) (aa R))) (aa R)) (aa R)) (aa R))) (aa R)) (
 (aw .eql aN true v7 (.int .u8 33)).wp K U (fun j0 U =>
 av j0 (
 (af (some 1) v4).wp K U (fun jF U =>
 (ak aE jF U).wp K U (fun nL U =>
 ae K 232 [a0,nL] U (ag (fun oF U =>
 al R (.aH []) U) (aa R))) (aa R)) (aa R)) (
 (aw .eql aN true v7 (.int .u8 34)).wp K U (fun nM U =>
 av nM (
 (af (some 1) v4).wp K U (fun v49 U =>
 (ak aE v49 U).wp K U (fun ky U =>
 ae K 232 [a0,ky] U (ag (fun v51 U =>
 (ar (some (9,1)) (some [.str []]) 1 false [(0,(.str cB))]).wp K U (fun v53 U =>
 ae K 231 [a0,v53] U (ag (fun nO U =>
 ae K 233 [a0,a2] U (ag (fun q9 U =>
 (ar (some (9,1)) (some [.str []]) 1 false [(0,(.str cg))]).wp K U (fun v59 U =>
 ae K 231 [a0,v59] U (ag (fun uR U =>
 al R (.aH []) U) (aa R))) (aa R)) (aa R))) (aa R))) (aa R)) (aa R))) (aa R)) (aa R)) (
 (aC.vu).wp K U (fun v9 U =>
 (dW (some (.i,9)) v9 (.int .u8 27) (.str dy) U).wp K U (fun _ U =>
 (dW (some (.i,9)) v9 (.int .u8 28) (.str dB) U).wp K U (fun _ U =>
 (dW (some (.i,9)) v9 (.int .u8 29) (.str fB) U).wp K U (fun _ U =>
 (dW (some (.i,9)) v9 (.int .u8 30) (.str gK) U).wp K U (fun _ U =>
 (af (some 0) v4).wp K U (fun v11 U =>
 (ak aE v11 U).wp K U (fun v12 U =>
 (eB (some (.i,9)) (some (.str [])) v9 v12 false U).wp K U (fun cz U =>
 (ar (some (9,1)) (some [.str []]) 1 false [(0,cz)]).wp K U (fun cG U =>
 ae K 231 [a0,cG] U (ag (fun cb U =>
 al R (.aH []) U) (aa R))) (aa R)) (aa R)) (aa R)) (aa R)) (aa R)) (aa R)) (aa R)) (aa R)) (aa R))) (aa R))) (aa R))) (aa R))) (aa R))) (aa R)) (aa R)) (aa R)) (aa R)
def Ae:Prop :=
 (fZ a1).wp K U (fun v4 U =>
 (af (some 0) v4).wp K U (fun v7 U =>
 (ak aE v7 U).wp K U (fun v8 U =>
 (aw .eql aN true v8 (.int .u8 5)).wp K U (fun v10 U =>
 av v10 (
 (af (some 1) v4).wp K U (fun v12 U =>
 (ak aE v12 U).wp K U (fun cz U =>
 ae K 232 [a0,cz] U (ag (fun cG U =>
 (ar (some (9,1)) (some [.str []]) 1 false [(0,(.str cW))]).wp K U (fun cU U =>
 ae K 231 [a0,cU] U (ag (fun dM U =>
 (aO (some (3,1)) none a2 (.int .i64 0)).wp K U (fun v20 U =>
 (ak aE v20 U).wp K U (fun v21 U =>
 ae K 123 [a0,v21] U (ag (fun eo U =>
 al R (.aH []) U) (aa R))) (aa R)) (aa R)) (aa R))) (aa R)) (aa R))) (aa R)) (aa R)) (
 (aw .eql aN true v8 (.int .u8 37)).wp K U (fun v24 U =>
 av v24 (
 (af (some 1) v4).wp K U (fun gm U =>
 (ak aE gm U).wp K U (fun ef U =>
 ae K 232 [a0,ef] U (ag (fun v28 U =>
 al R (.aH []) U) (aa R))) (aa R)) (aa R)) (
 (aw .eql aN true v8 (.int .u8 35)).wp K U (fun v30 U =>
 av v30 (
 (cE (some false) a2).wp K U (fun fK U =>
 (aw .sub aN true fK (.int .i64 1)).wp K U (fun fQ U =>
 (ar (some (9,1)) (some [.str []]) 2 false [(0,(.str qF)),(1,(.str cB))]).wp K U (fun hY U =>
 ae K 231 [a0,hY] U (ag (fun hZ U =>
 (fI false (some (3,1)) a2 none (some fQ)).wp K U (fun v40 U =>
 ae K 233 [a0,v40] U (ag (fun j0 U =>
 (fI false (some (3,1)) a2 (some fQ) none).wp K U (fun oF U =>
 (ar (some (9,1)) (some [.str []]) 1 false [(0,(.str cg))]).wp K U (fun v46 U =>
 ae K 237 [a0,oF,v46] U (ag (fun nM U =>
 al R (.aH []) U) (aa R))) (aa R)) (aa R)) (aa R))) (aa R)) (aa R))) (aa R)) (aa R)) (aa R)) (
 (aw .eql aN true v8 (.int .u8 36)).wp K U (fun v49 U =>
 av v49 (
 (ar (some (9,1)) (some [.str []]) 1 false [(0,(.str nf))]).wp K U (fun v51 U =>
 ae K 231 [a0,v51] U (ag (fun nN U =>
 (fI false (some (3,1)) a2 none (some (.int .i64 1))).wp K U (fun oG U =>
 (ar (some (9,1)) (some [.str []]) 1 false [(0,(.str vI))]).wp K U (fun mE U =>
 ae K 237 [a0,oG,mE] U (ag (fun q9 U =>
 (ar (some (9,1)) (some [.str []]) 2 false [(0,(.str cn)),(1,(.str vJ))]).wp K U (fun v59 U =>
 ae K 231 [a0,v59] U (ag (fun uR U =>
 (aO (some (3,1)) none a2 (.int .i64 1)).wp K U (fun qi U =>
 (ak aE qi U).wp K U (fun tc U =>
 ae K 123 [a0,tc] U (ag (fun rY U =>
 (fI false (some (3,1)) a2 (some (.int .i64 2)) none).wp K U (fun xn U =>
 (ar (some (9,1)) (some [.str []]) 1 false [(0,(.str tU))]).wp K U (fun Al U =>
 ae K 237 [a0,xn,Al] U (ag (fun v70 U =>
 (ar (some (9,1)) (some [.str []]) 1 false [(0,(.str qq))]).wp K U (fun v72 U =>
 ae K 231 [a0,v72] U (ag (fun BM U =>
 al R (.aH []) U) (aa R))) (aa R)) (aa R))) (aa R)) (aa R)) (aa R))) (aa R)) (aa R)) (aa R))) (aa R)) (aa R))) (aa R)) (aa R)) (aa R))) (aa R)) (
 al R (.aH []) U)) (aa R))) (aa R))) (aa R))) (aa R)) (aa R)) (aa R)) (aa R)
def Sn:Prop :=
 (fZ a0).wp K U (fun v2 U =>
 (fZ a1).wp K U (fun v3 U =>
 (af (some 0) v2).wp K U (fun v5 U =>
 (ak aE v5 U).wp K U (fun v6 U =>
 (aw .neq aN true v6 (.int .u8 4)).wp K U (fun v7 U =>
 ao K (aL v7 true) (af (some 0) v3) (fun v9 =>
 ao K (aL v7 true) (ak aE v9 U) (fun v10 =>
 ao K (aL v7 true) (aw .neq aN true v10 (.int .u8 4)) (fun v11 =>
 (bM v7 v11 (.bool false)).wp K U (fun v12 U =>
 av v12 (
 al R (.bool true) U) (
 (af (some 1) v2).wp K U (fun cz U =>
 (ak aE cz U).wp K U (fun cG U =>
 (aw .eql aN true cG (.str cW)).wp K U (fun cb U =>
 ao K (aL cb true) (af (some 1) v3) (fun dM =>
 ao K (aL cb true) (ak aE dM U) (fun cA =>
 ao K (aL cb true) (aw .eql aN true cA (.str gk)) (fun de =>
 (bM cb de (.bool false)).wp K U (fun v20 U =>
 al R v20 U) (aa R))))) (aa R)) (aa R)) (aa R))) (aa R))))) (aa R)) (aa R)) (aa R)) (aa R)) (aa R)
def Sq:Prop :=
 ae K 190 [a0] U (ag (fun v6 U =>
 (aV a0).wp K U (fun v9 U =>
 (af (some 1) v9).wp K U (fun v10 U =>
 (ak aE v10 U).wp K U (fun v11 U =>
 (ar (some (5,1)) (some [.int .u8 0]) 1 false [(0,a1)]).wp K U (fun cz U =>
 (eR (some (5,1)) false v11 cz U).wp K U (fun cG U =>
 (aV a0).wp K U (fun cb U =>
 (af (some 1) cb).wp K U (fun cU U =>
 (aI aE cU cG U).wp K U (fun _ U =>
 al R .dq U) (aa R)) (aa R)) (aa R)) (aa R)) (aa R)) (aa R)) (aa R)) (aa R)) (aa R))
def Ss:Prop :=
 (aw .eql aN true a0 (.int .u8 6)).wp K U (fun v4 U =>
 ao K (aL v4 false) (aC.val a0) (fun v6 =>
 ao K (aL v4 false) (aw .eql aN true v6 (.int .u8 7)) (fun v7 =>
 (bM v4 (.bool true) v7).wp K U (fun v8 U =>
 al R v8 U) (aa R)))) (aa R)
def Sv:Prop :=
 ae K 185 [a0] U (ag (fun v4 U =>
 ao K (aL v4 false) (aC.val a0) (fun v6 =>
 ao K (aL v4 false) (aw .eql aN true v6 (.int .u8 35)) (fun v7 =>
 (bM v4 (.bool true) v7).wp K U (fun v8 U =>
 ao K (aL v8 false) (aC.val a0) (fun v10 =>
 ao K (aL v8 false) (aw .eql aN true v10 (.int .u8 36)) (fun v11 =>
 (bM v8 (.bool true) v11).wp K U (fun v12 U =>
 al R v12 U) (aa R)))) (aa R)))) (aa R))
def Sx:Prop :=
 ae K 33 [a0] U (ag (fun v8 U =>
 (aX v8 0).wp K U (fun v9 U =>
 (aX v8 1).wp K U (fun v10 U =>
 (aX v8 2).wp K U (fun v11 U =>
 (aw .eql aN true v11 (.int .i64 0)).wp K U (fun cz U =>
 ao K (aL cz true) (aC.val v9) (fun cb =>
 ao K (aL cz true) (cE (some false) cb) (fun cU =>
 ao K (aL cz true) (aw .eql aN true cU (.int .i64 1)) (fun dM =>
 (bM cz dM (.bool false)).wp K U (fun cA U =>
 ao K (aL cA true) (aC.val v9) (fun v20 =>
 ao K (aL cA true) (aO (some (51,3)) none v20 (.int .i64 0)) (fun v21 =>
 ao K (aL cA true) (af (some 0) v21) (fun eo =>
 ao K (aL cA true) (ak aE eo U) (fun eL =>
 ao K (aL cA true) (aw .eql aN true eL (.int .u8 1)) (fun v24 =>
 (bM cA v24 (.bool false)).wp K U (fun eV U =>
 ao K (aL eV true) (aC.val v9) (fun ef =>
 ao K (aL eV true) (aO (some (51,3)) none ef (.int .i64 0)) (fun v28 =>
 ao K (aL eV true) (af (some 1) v28) (fun ep =>
 ao K (aL eV true) (ak aE ep U) (fun v30 =>
 ao K (aL eV true) (aC.val a0) (fun v31 =>
 ao K (aL eV true) (aw .eql aN false v30 v31) (fun fK =>
 (bM eV fK (.bool false)).wp K U (fun fQ U =>
 al R fQ U) (aa R)))))))) (aa R))))))) (aa R))))) (aa R)) (aa R)) (aa R)) (aa R)) (aa R))
def Sz:Prop :=
 (cE (some false) a1).wp K U (fun v12 U =>
 fy 5 [a0,a1,a1,v12,(.int .i64 0)] U fun lp v0 v1 v11 XJ cz U =>
 (aw .lss aN false cz XJ).wp K U (fun cG U =>
 av cG (
 (aO (some (200,3)) none v11 cz).wp K U (fun cU U =>
 (ak (some (true,3)) cU U).wp K U (fun dM U =>
 (aC.db [.dV,.int .i64 0,.int .i64 0]).wp K U (fun v6 U =>
 (aI (some (true,3)) v6 dM U).wp K U (fun _ U =>
 (aw .add aN true cz (.int .i64 1)).wp K U (fun v20 U =>
 (fI false (some (200,3)) v1 (some v20) none).wp K U (fun v21 U =>
 (cE (some false) v21).wp K U (fun eo U =>
 fy 10 [v0,v1,v6,(.int .i64 0),v11,XJ,cz,v21,eo,(.int .i64 0)] U fun UZ gZ ow px v7 DT XK vH XQ XR eL U =>
 (aw .lss aN false eL XR).wp K U (fun v24 U =>
 av v24 (
 (aO (some (200,3)) none XQ eL).wp K U (fun eV U =>
 (ak (some (true,3)) eV U).wp K U (fun gm U =>
 (aC.db [.dV,.int .i64 0,.int .i64 0]).wp K U (fun v9 U =>
 (aI (some (true,3)) v9 gm U).wp K U (fun _ U =>
 (af (some 1) v9).wp K U (fun v28 U =>
 (ak aE v28 U).wp K U (fun ep U =>
 (aw .add aN false v7 ep).wp K U (fun v30 U =>
 (aw .add aN true eL (.int .i64 1)).wp K U (fun v31 U =>
 UZ gZ ow px v30 DT XK vH XQ XR v31 U) (aa R)) (aa R)) (aa R)) (aa R)) (aa R)) (aa R)) (aa R)) (aa R)) (
 fy 8 [gZ,ow,px,v7,(.int .i64 0),DT,XK,vH] U fun afU Oj acC Ot lQ v10 XH XL DU U =>
 jL 9 (fun ack acD acF V5 Ok XI XM XN nN U =>
 av nN (
 (aw .add aN true Ok (.int .i64 1)).wp K U (fun nO U =>
 afU ack acD acF V5 nO XI XM XN U) (aa R)) (
 (af (some 1) acF).wp K U (fun mE U =>
 (ak aE mE U).wp K U (fun q9 U =>
 (aw .lss aN false Ok q9).wp K U (fun pa U =>
 av pa (
 al R (.bool false) U) (
 (fI false (some (5,1)) ack (some Ok) none).wp K U (fun nX U =>
 (aw .add aN true XN (.int .i64 1)).wp K U (fun uS U =>
 lp nX acD XI XM uS U) (aa R)) (aa R))) (aa R)) (aa R)) (aa R))) fun j =>
 (fun au:St =>
 aB K (cE (some false) Oj) (fun iK =>
 aB K (aw .sub aN false iK lQ) (fun hZ =>
 aB K (aw .lss aN false v10 hZ) (fun v37 =>
 ao K (aL v37 true) (aC.val v10) (fun l8 =>
 ao K (aL v37 true) (af (some 2) Ot) (fun v40 =>
 ao K (aL v37 true) (ak aE v40 au) (fun j0 =>
 ao K (aL v37 true) (aw .lss aN false l8 j0) (fun lz =>
 aB K (bM v37 lz (.bool false)) (fun jF =>
 ao K (aL jF true) (af (some 0) Ot) (fun oF =>
 ao K (aL jF true) (ak aE oF au) (fun v46 =>
 ao K (aL jF true) (aC.val Oj) (fun nM =>
 ao K (aL jF true) (aC.val v10) (fun rX =>
 ao K (aL jF true) (aO (some (5,1)) none nM rX) (fun v49 =>
 ao K (aL jF true) (ak aE v49 au) (fun ky =>
 av (aL jF true) (
 (jk K.P v46 [ky]).wp K U (fun v51 U=>da ((eM v49++[])++((eM oF++[])++((eM v40++[])++[]))) au U /\
 aB K (bM jF v51 (.bool false)) (fun Oo =>
 j Oj acC Ot lQ v10 XH XL DU Oo U)) (aa R)) (
 aB K (bM jF (.aH []) (.bool false)) (fun aew =>
 j Oj acC Ot lQ v10 XH XL DU aew U))))))))))))))))) U)) (aa R)) (aa R)) (aa R)) (aa R)) (aa R)) (aa R)) (aa R)) (aa R)) (
 (cE (some false) v0).wp K U (fun tc U =>
 (aw .eql aN true tc (.int .i64 0)).wp K U (fun rY U =>
 al R rY U) (aa R)) (aa R))) (aa R)) (aa R)
def JD:Prop :=
 (cE (some false) a0).wp K U (fun v7 U =>
 fy 4 [a0,a1,v7,(.int .i64 0)] U fun lp v0 v1 lQ v8 U =>
 (aw .lss aN false v8 lQ).wp K U (fun v9 U =>
 av v9 (
 (aO (some (3,1)) none v0 v8).wp K U (fun cG U =>
 (ak aE cG U).wp K U (fun cb U =>
 (jk K.P v1 [cb]).wp K U (fun cU U =>
 av cU (
 al R v8 U) (
 (aw .add aN true v8 (.int .i64 1)).wp K U (fun cA U =>
 lp v0 v1 lQ cA U) (aa R))) (aa R)) (aa R)) (aa R)) (
 al R (.int .i64 (-1)) U)) (aa R)) (aa R)
def ab7:Prop :=
 ae K 243 [a0,a1] U (ag (fun v10 U =>
 (aw .geq aN true v10 (.int .i64 0)).wp K U (fun v12 U =>
 av v12 (
 (fun au:St =>
 aB K (fI true none a0 none (some v10)) (fun cb =>
 aB K (cE (some true) a1) (fun de =>
 aB K (aw .add aN false v10 de) (fun v20 =>
 aB K (fI true none a0 (some v20) none) (fun v21 =>
 al R (.aH [cb,v21,(.bool true)]) U))))) U) (
 al R (.aH [a0,(.str w_),(.bool false)]) U)) (aa R)) (aa R))
def ab8:Prop :=
 ae K 246 [a0,a1] U (ag (fun v7 U =>
 (aw .geq aN true v7 (.int .i64 0)).wp K U (fun v8 U =>
 al R v8 U) (aa R)) (aa R))
def SC:Prop :=
 (aw .eql aN true a0 (.int .u8 32)).wp K U (fun v5 U =>
 ao K (aL v5 false) (aC.val a0) (fun v7 =>
 ao K (aL v5 false) (aw .eql aN true v7 (.int .u8 10)) (fun v8 =>
 (bM v5 (.bool true) v8).wp K U (fun v9 U =>
 av v9 (
 al R (.int .i64 1) U) (
 (aw .lss aN true a0 (.int .u8 32)).wp K U (fun v12 U =>
 ao K (aL v12 false) (aC.val a0) (fun cG =>
 ao K (aL v12 false) (aw .gtr aN true cG (.int .u8 126)) (fun cb =>
 (bM v12 (.bool true) cb).wp K U (fun cU U =>
 av cU (
 al R (.int .i64 0) U) (
 (aw .geq aN true a0 (.int .u8 48)).wp K U (fun de U =>
 ao K (aL de true) (aC.val a0) (fun v21 =>
 ao K (aL de true) (aw .leq aN true v21 (.int .u8 57)) (fun eo =>
 (bM de eo (.bool false)).wp K U (fun eL U =>
 av eL (
 al R (.int .i64 2) U) (
 (aw .geq aN true a0 (.int .u8 97)).wp K U (fun gm U =>
 ao K (aL gm true) (aC.val a0) (fun v28 =>
 ao K (aL gm true) (aw .leq aN true v28 (.int .u8 122)) (fun ep =>
 (bM gm ep (.bool false)).wp K U (fun v30 U =>
 av v30 (
 al R (.int .i64 3) U) (
 (aw .geq aN true a0 (.int .u8 65)).wp K U (fun fQ U =>
 ao K (aL fQ true) (aC.val a0) (fun hY =>
 ao K (aL fQ true) (aw .leq aN true hY (.int .u8 90)) (fun hZ =>
 (bM fQ hZ (.bool false)).wp K U (fun v37 U =>
 av v37 (
 al R (.int .i64 4) U) (
 al R (.int .i64 5) U)) (aa R)))) (aa R))) (aa R)))) (aa R))) (aa R)))) (aa R))) (aa R)))) (aa R))) (aa R)))) (aa R)
def SE:Prop :=
 (aw .eql aN true a1 (.int .i64 9)).wp K U (fun v12 U =>
 av v12 (
 ae K 252 [a0] U (ag (fun cG U =>
 al R cG U) (aa R))) (
 (aw .eql aN true a1 (.int .i64 4)).wp K U (fun cU U =>
 av cU (
 ae K 99 [a0,(.int .u8 19)] U (ag (fun cA U =>
 ae K 100 [a0,(.str pK)] U (ag (fun v20 U =>
 av v20 (
 ae K 219 [a0,(.int .i64 4)] U (ag (fun eL U =>
 (ar (some (87,1)) (some [.aW]) 1 false [(0,eL)]).wp K U (fun v24 U =>
 ae K 103 [cA,v24] U (ag (fun eV U =>
 al R eV U) (aa R))) (aa R)) (aa R))) (
 (aw .add aN true a1 (.int .i64 1)).wp K U (fun v28 U =>
 ae K 219 [a0,v28] U (ag (fun ep U =>
 al R ep U) (aa R))) (aa R))) (aa R))) (aa R))) (
 (aw .add aN true a1 (.int .i64 1)).wp K U (fun fK U =>
 ae K 219 [a0,fK] U (ag (fun fQ U =>
 fy 3 [a0,a1,fQ] U fun lp v0 v1 v6 U =>
 (fun au:St =>
 aB K (aV v0) (fun hZ =>
 aB K (af (some 3) hZ) (fun v37 =>
 aB K (ak aE v37 au) (fun gU =>
 aB K (eB (some (.i,185)) (some .jO) gU v1 false au) (fun v40 =>
 ae K 253 [v0] U (ag (fun lz U=>da ((eM gU++(eM v1++[]))++((eM v37++[])++[])) au U /\
 (∀ b ∈ eM v40++(eM lz++[]),b ∈ (eM gU++(eM v1++[]))++((eM v37++[])++[])) /\
 aB K (eB (some (.s,5)) (some (.int .u8 0)) v40 lz true au) (fun jF =>
 aB K (aX jF 0) (fun nL =>
 aB K (aX jF 1) (fun oF =>
 (ly .not oF).wp K U (fun nM U =>
 av nM (
 al R v6 U) (
 ae K 99 [v0,nL] U (ag (fun v51 U =>
 (aV v0).wp K U (fun v53 U =>
 (af (some 1) v53).wp K U (fun nO U =>
 (ak aE nO U).wp K U (fun oG U =>
 (aw .add aN true oG (.int .i64 1)).wp K U (fun mE U =>
 (aV v0).wp K U (fun q9 U =>
 (af (some 1) q9).wp K U (fun pa U =>
 (aI aE pa mE U).wp K U (fun _ U =>
 (aw .eql aN true v1 (.int .i64 8)).wp K U (fun uR U =>
 av uR (
 ae K 168 [v0] U (ag (fun qi U =>
 (aV v51).wp K U (fun tc U =>
 (af (some 0) tc).wp K U (fun rY U =>
 (af (some 2) rY).wp K U (fun uT U =>
 (aI aE uT qi U).wp K U (fun _ U =>
 (ar (some (87,1)) (some [.aW]) 1 false [(0,v6)]).wp K U (fun Al U =>
 ae K 103 [v51,Al] U (ag (fun v70 U =>
 lp v0 v1 v70 U) (aa R))) (aa R)) (aa R)) (aa R)) (aa R)) (aa R)) (aa R))) (
 (aw .add aN true v1 (.int .i64 1)).wp K U (fun v75 U =>
 ae K 219 [v0,v75] U (ag (fun v76 U =>
 (ar (some (87,1)) (some [.aW]) 2 false [(0,v6),(1,v76)]).wp K U (fun BN U =>
 ae K 103 [v51,BN] U (ag (fun BO U =>
 (aw .eql aN true v1 (.int .i64 5)).wp K U (fun v80 U =>
 av v80 (
 al R BO U) (
 lp v0 v1 BO U)) (aa R)) (aa R))) (aa R)) (aa R))) (aa R))) (aa R)) (aa R)) (aa R)) (aa R)) (aa R)) (aa R)) (aa R)) (aa R)) (aa R)))) (aa R))))) (aa R))))))) U) (aa R))) (aa R))) (aa R))) (aa R)
def SG:Prop :=
 (cE (some false) a0).wp K U (fun v7 U =>
 fy 4 [a0,a1,v7,(.int .i64 0)] U fun lp v0 v1 lQ v8 U =>
 (aw .lss aN false v8 lQ).wp K U (fun v9 U =>
 av v9 (
 (aO (some (9,1)) none v0 v8).wp K U (fun cG U =>
 (ak aE cG U).wp K U (fun cb U =>
 (aw .eql aN false v1 cb).wp K U (fun cU U =>
 av cU (
 al R v8 U) (
 (aw .add aN true v8 (.int .i64 1)).wp K U (fun cA U =>
 lp v0 v1 lQ cA U) (aa R))) (aa R)) (aa R)) (aa R)) (
 al R (.int .i64 (-1)) U)) (aa R)) (aa R)
def SI:Prop :=
 (cE (some false) a1).wp K U (fun v8 U =>
 fy 4 [a0,a1,v8,(.int .i64 0)] U fun lp v0 v7 py v9 U =>
 (aw .lss aN false v9 py).wp K U (fun v10 U =>
 av v10 (
 (aO (some (9,1)) none v7 v9).wp K U (fun v11 U =>
 (ak aE v11 U).wp K U (fun v12 U =>
 jL 6 (fun gZ v5 v6 lQ agx ma U =>
 (aV gZ).wp K U (fun eL U =>
 (af (some 1) eL).wp K U (fun v24 U =>
 (ak aE v24 U).wp K U (fun eV U =>
 (ek (some [(0,1),(1,1),(2,1)]) (some [.int .u8 0,.str [],.int .i64 0]) none [(0,v6),(1,v5)]).wp K U (fun v28 U =>
 (ar (some (51,3)) (some [.int .u8 0,.str [],.int .i64 0]) 1 false [(0,v28)]).wp K U (fun ep U =>
 (eR (some (51,3)) false eV ep U).wp K U (fun v30 U =>
 (aV gZ).wp K U (fun v31 U =>
 (af (some 1) v31).wp K U (fun fK U =>
 (aI aE fK v30 U).wp K U (fun _ U =>
 (aw .add aN true ma (.int .i64 1)).wp K U (fun fQ U =>
 lp gZ lQ agx fQ U) (aa R)) (aa R)) (aa R)) (aa R)) (aa R)) (aa R)) (aa R)) (aa R)) (aa R)) (aa R)) fun j =>
 (hX true none none v12 (.int .i64 0)).wp K U (fun cG U =>
 (aw .geq aN true cG (.int .u8 97)).wp K U (fun cb U =>
 ao K (aL cb true) (aC.val v12) (fun dM =>
 ao K (aL cb true) (hX true none none dM (.int .i64 0)) (fun cA =>
 ao K (aL cb true) (aw .leq aN true cA (.int .u8 122)) (fun de =>
 (bM cb de (.bool false)).wp K U (fun v20 U =>
 av v20 (
 j v0 v12 (.int .u8 3) v7 py v9 U) (
 j v0 v12 (.int .u8 4) v7 py v9 U)) (aa R))))) (aa R)) (aa R)) (aa R)) (aa R)) (
 al R (.aH []) U)) (aa R)) (aa R)
def SK:Prop :=
 (aV a0).wp K U (fun v6 U =>
 (af (some 1) v6).wp K U (fun v7 U =>
 (ak aE v7 U).wp K U (fun v8 U =>
 (ek (some [(0,1),(1,1),(2,1)]) (some [.int .u8 0,.str [],.int .i64 0]) none [(0,(.int .u8 1)),(1,a1)]).wp K U (fun v10 U =>
 (ar (some (51,3)) (some [.int .u8 0,.str [],.int .i64 0]) 1 false [(0,v10)]).wp K U (fun v11 U =>
 (eR (some (51,3)) false v8 v11 U).wp K U (fun v12 U =>
 (aV a0).wp K U (fun cz U =>
 (af (some 1) cz).wp K U (fun cG U =>
 (aI aE cG v12 U).wp K U (fun _ U =>
 al R (.aH []) U) (aa R)) (aa R)) (aa R)) (aa R)) (aa R)) (aa R)) (aa R)) (aa R)) (aa R)
def SM:Prop :=
 (cE (some false) a1).wp K U (fun v7 U =>
 fy 4 [a0,a1,v7,(.int .i64 0)] U fun lp v0 v6 lQ v8 U =>
 (aw .lss aN false v8 lQ).wp K U (fun v9 U =>
 av v9 (
 (aO (some (3,1)) none v6 v8).wp K U (fun v11 U =>
 (ak aE v11 U).wp K U (fun v12 U =>
 jL 5 (fun gZ v5 px V5 py U =>
 ae K 123 [gZ,v5] U (ag (fun v20 U =>
 (aw .add aN true py (.int .i64 1)).wp K U (fun v21 U =>
 lp gZ px V5 v21 U) (aa R)) (aa R))) fun j =>
 (aw .gtr aN true v8 (.int .i64 0)).wp K U (fun cG U =>
 av cG (
 (ar (some (9,1)) (some [.str []]) 1 false [(0,(.str cw))]).wp K U (fun cU U =>
 ae K 231 [v0,cU] U (ag (fun dM U =>
 j v0 v12 v6 lQ v8 U) (aa R))) (aa R)) (
 j v0 v12 v6 lQ v8 U)) (aa R)) (aa R)) (aa R)) (
 al R (.aH []) U)) (aa R)) (aa R)
def SO:Prop :=
 (fun au:St =>
 aB K (aV a0) (fun v6 =>
 aB K (af (some 1) v6) (fun v7 =>
 aB K (ak aE v7 au) (fun v8 =>
 aB K (aC.enter 257 [a1]) (fun v10 =>
 aB K (ek (some [(0,1),(1,1),(2,1)]) (some [.int .u8 0,.str [],.int .i64 0]) none [(0,(.int .u8 2)),(1,v10)]) (fun v11 =>
 aB K (ar (some (51,3)) (some [.int .u8 0,.str [],.int .i64 0]) 1 false [(0,v11)]) (fun v12 =>
 (eR (some (51,3)) false v8 v12 U).wp K U (fun cz U=>da ((eM v7++[])++[]) au U /\
 aB K (aV a0) (fun cG =>
 aB K (af (some 1) cG) (fun cb =>
 (aI aE cb cz U).wp K U (fun _ U =>
 al R (.aH []) U) (aa R)))) (aa R)))))))) U
def SQ:Prop :=
 (aV a0).wp K U (fun v8 U =>
 (af (some 0) v8).wp K U (fun v9 U =>
 (af (some 0) v9).wp K U (fun v10 U =>
 (af (some 0) v10).wp K U (fun v11 U =>
 (ak aE v11 U).wp K U (fun v12 U =>
 (aO (some (43,6)) none v12 a1).wp K U (fun cG U =>
 (af (some 0) cG).wp K U (fun cb U =>
 (ak aE cb U).wp K U (fun cU U =>
 ae K 236 [a0,cU] U (ag (fun dM U =>
 (aw .geq aN false dM a2).wp K U (fun de U =>
 av de (
 ae K 123 [a0,a1] U (ag (fun eo U =>
 al R (.aH []) U) (aa R))) (
 (ar (some (9,1)) (some [.str []]) 1 false [(0,(.str cB))]).wp K U (fun v24 U =>
 ae K 231 [a0,v24] U (ag (fun eV U =>
 ae K 123 [a0,a1] U (ag (fun v28 U =>
 (ar (some (9,1)) (some [.str []]) 1 false [(0,(.str cg))]).wp K U (fun v30 U =>
 ae K 231 [a0,v30] U (ag (fun v31 U =>
 al R (.aH []) U) (aa R))) (aa R)) (aa R))) (aa R))) (aa R))) (aa R)) (aa R))) (aa R)) (aa R)) (aa R)) (aa R)) (aa R)) (aa R)) (aa R)) (aa R)
def SS:Prop :=
 (aV a0).wp K U (fun v10 U =>
 (af (some 2) v10).wp K U (fun v11 U =>
 (ak aE v11 U).wp K U (fun v12 U =>
 (uJ (some (.i,185)) v12).wp K U (fun cz U =>
 fy 2 [a1,cz] U fun lp v1 vH U =>
 (sL vH U).wp K U (fun cG U =>
 (aX cG 0).wp K U (fun cb U =>
 av cb (
 (nu vH U).wp K U (fun cU U =>
 (aX cU 0).wp K U (fun dM U =>
 (aX cU 1).wp K U (fun cA U =>
 (uJ (some (.s,5)) cA).wp K U (fun v20 U =>
 fy 4 [v1,dM,vH,v20] U fun UZ ow v5 DU Ol U =>
 (sL Ol U).wp K U (fun v21 U =>
 (aX v21 0).wp K U (fun eo U =>
 av eo (
 (nu Ol U).wp K U (fun eL U =>
 (aX eL 1).wp K U (fun v24 U =>
 (aw .eql aN false v24 ow).wp K U (fun ef U =>
 av ef (
 al R v5 U) (
 UZ ow v5 DU Ol U)) (aa R)) (aa R)) (aa R)) (
 lp ow DU U)) (aa R)) (aa R)) (aa R)) (aa R)) (aa R)) (aa R)) (
 (aw .eql aN true v1 (.int .u8 9)).wp K U (fun v31 U =>
 av v31 (
 al R (.int .i64 0) U) (
 (aw .eql aN true v1 (.int .u8 19)).wp K U (fun iK U =>
 av iK (
 al R (.int .i64 4) U) (
 (aw .geq aN true v1 (.int .u8 10)).wp K U (fun v37 U =>
 ao K (aL v37 true) (aC.val v1) (fun l8 =>
 ao K (aL v37 true) (aw .leq aN true l8 (.int .u8 16)) (fun v40 =>
 (bM v37 v40 (.bool false)).wp K U (fun j0 U =>
 av j0 (
 al R (.int .i64 1) U) (
 al R (.int .i64 9) U)) (aa R)))) (aa R))) (aa R))) (aa R))) (aa R)) (aa R)) (aa R)) (aa R)) (aa R)) (aa R)
def SV:Prop :=
 (cE (some false) a1).wp K U (fun v9 U =>
 fy 5 [a0,a2,a1,v9,(.int .i64 0)] U fun lp v0 v2 v8 ma v10 U =>
 (aw .lss aN false v10 ma).wp K U (fun v11 U =>
 av v11 (
 (aO (some (3,1)) none v8 v10).wp K U (fun cz U =>
 (ak aE cz U).wp K U (fun cG U =>
 (aO (some (9,1)) none v2 v10).wp K U (fun cA U =>
 (ak aE cA U).wp K U (fun de U =>
 (ar (some (9,1)) (some [.str []]) 1 false [(0,de)]).wp K U (fun v20 U =>
 ae K 231 [v0,v20] U (ag (fun v21 U =>
 ae K 235 [v0,cG,(.int .i64 1)] U (ag (fun v24 U =>
 (aw .add aN true v10 (.int .i64 1)).wp K U (fun eV U =>
 lp v0 v2 v8 ma eV U) (aa R)) (aa R))) (aa R))) (aa R)) (aa R)) (aa R)) (aa R)) (aa R)) (
 al R (.aH []) U)) (aa R)) (aa R)
def SX:Prop :=
 (ak aE a1 U).wp K U (fun v5 U =>
 (aw .eql aN false a0 v5).wp K U (fun v6 U =>
 al R v6 U) (aa R)) (aa R)
def SZ:Prop :=
 (cE (some false) a0).wp K U (fun v7 U =>
 fy 4 [a0,a1,v7,(.int .i64 0)] U fun lp v0 v1 lQ v8 U =>
 (aw .lss aN false v8 lQ).wp K U (fun v9 U =>
 av v9 (
 (aO (some (178,1)) none v0 v8).wp K U (fun cG U =>
 (ak aE cG U).wp K U (fun cb U =>
 (aw .eql aN false v1 cb).wp K U (fun cU U =>
 av cU (
 al R v8 U) (
 (aw .add aN true v8 (.int .i64 1)).wp K U (fun cA U =>
 lp v0 v1 lQ cA U) (aa R))) (aa R)) (aa R)) (aa R)) (
 al R (.int .i64 (-1)) U)) (aa R)) (aa R)
def S5:Prop :=
 (aC.vu).wp K U (fun v10 U =>
 (dW (some (.s,5)) v10 (.str dy) (.int .u8 27) U).wp K U (fun _ U =>
 (dW (some (.s,5)) v10 (.str dB) (.int .u8 28) U).wp K U (fun _ U =>
 (dW (some (.s,5)) v10 (.str fB) (.int .u8 29) U).wp K U (fun _ U =>
 (dW (some (.s,5)) v10 (.str gK) (.int .u8 30) U).wp K U (fun _ U =>
 (dW (some (.s,5)) v10 (.str jS) (.int .u8 31) U).wp K U (fun _ U =>
 (dW (some (.s,5)) v10 (.str lZ) (.int .u8 32) U).wp K U (fun _ U =>
 ae K 253 [a0] U (ag (fun cb U =>
 (eB (some (.s,5)) (some (.int .u8 0)) v10 cb true U).wp K U (fun cU U =>
 (aX cU 0).wp K U (fun dM U =>
 (aX cU 1).wp K U (fun cA U =>
 av cA (
 ae K 99 [a0,dM] U (ag (fun eo U =>
 (aV a0).wp K U (fun v24 U =>
 (af (some 1) v24).wp K U (fun eV U =>
 (ak aE eV U).wp K U (fun gm U =>
 (aw .add aN true gm (.int .i64 1)).wp K U (fun ef U =>
 (aV a0).wp K U (fun v28 U =>
 (af (some 1) v28).wp K U (fun ep U =>
 (aI aE ep ef U).wp K U (fun _ U =>
 jL 1 (fun v6 U =>
 al R v6 U) fun j =>
 (aw .eql aN true dM (.int .u8 31)).wp K U (fun v31 U =>
 ao K (aL v31 false) (aC.val dM) (fun fQ =>
 ao K (aL v31 false) (aw .eql aN true fQ (.int .u8 32)) (fun iK =>
 (bM v31 (.bool true) iK).wp K U (fun hY U =>
 av hY (
 ae K 101 [a0] U (ag (fun gU U =>
 (aV eo).wp K U (fun l8 U =>
 (af (some 0) l8).wp K U (fun v40 U =>
 (af (some 1) v40).wp K U (fun j0 U =>
 (aI aE j0 gU U).wp K U (fun _ U =>
 j eo U) (aa R)) (aa R)) (aa R)) (aa R)) (aa R))) (
 j eo U)) (aa R)))) (aa R)) (aa R)) (aa R)) (aa R)) (aa R)) (aa R)) (aa R)) (aa R)) (aa R))) (
 ae K 100 [a0,(.str cB)] U (ag (fun nL U =>
 av nL (
 ae K 109 [a0] U (ag (fun v46 U =>
 ae K 102 [a0,(.str cg)] U (ag (fun rX U =>
 al R v46 U) (aa R))) (aa R))) (
 ae K 167 [a0,(.int .i64 0)] U (ag (fun v51 U =>
 (u4 (some (0,false,1)) v51).wp K U (fun nN U =>
 (aw .eql aN true nN (.int .u8 2)).wp K U (fun v53 U =>
 av v53 (
 ae K 99 [a0,(.int .u8 26)] U (ag (fun oG U =>
 ae K 168 [a0] U (ag (fun pa U =>
 (aV oG).wp K U (fun v59 U =>
 (af (some 0) v59).wp K U (fun uR U =>
 (af (some 2) uR).wp K U (fun nX U =>
 (aI aE nX pa U).wp K U (fun _ U =>
 al R oG U) (aa R)) (aa R)) (aa R)) (aa R)) (aa R))) (aa R))) (
 ae K 99 [a0,(.int .u8 33)] U (ag (fun tc U =>
 ae K 101 [a0] U (ag (fun tH U =>
 (aV tc).wp K U (fun xn U =>
 (af (some 0) xn).wp K U (fun Al U =>
 (af (some 1) Al).wp K U (fun v70 U =>
 (aI aE v70 tH U).wp K U (fun _ U =>
 jL 1 (fun v9 U =>
 al R v9 U) fun Qc =>
 ae K 100 [a0,(.str cB)] U (ag (fun v72 U =>
 av v72 (
 (aV tc).wp K U (fun td U =>
 (af (some 0) td).wp K U (fun v75 U =>
 (af (some 0) v75).wp K U (fun v76 U =>
 (aI aE v76 (.int .u8 34) U).wp K U (fun _ U =>
 ae K 106 [a0,tc,(.func (.func 269) [a0] [])] U (ag (fun Mo U =>
 ae K 102 [a0,(.str cg)] U (ag (fun v83 U =>
 Qc tc U) (aa R))) (aa R))) (aa R)) (aa R)) (aa R)) (aa R)) (
 Qc tc U)) (aa R))) (aa R)) (aa R)) (aa R)) (aa R)) (aa R))) (aa R)))) (aa R)) (aa R)) (aa R)))) (aa R)))) (aa R)) (aa R)) (aa R)) (aa R))) (aa R)) (aa R)) (aa R)) (aa R)) (aa R)) (aa R)) (aa R)
def S7:Prop :=
 ae K 167 [a0,(.int .i64 0)] U (ag (fun v5 U =>
 (aC.db [.int .u8 0,.str [],.int .i64 0]).wp K U (fun v3 U =>
 (aI (some (true,3)) v3 v5 U).wp K U (fun _ U =>
 (af (some 0) v3).wp K U (fun v6 U =>
 (ak aE v6 U).wp K U (fun v7 U =>
 (aw .eql aN true v7 (.int .u8 3)).wp K U (fun v8 U =>
 ao K (aL v8 false) (af (some 0) v3) (fun v10 =>
 ao K (aL v8 false) (ak aE v10 U) (fun v11 =>
 ao K (aL v8 false) (aw .eql aN true v11 (.int .u8 4)) (fun v12 =>
 (bM v8 (.bool true) v12).wp K U (fun cz U =>
 av cz (
 (af (some 1) v3).wp K U (fun cG U =>
 (ak aE cG U).wp K U (fun cb U =>
 al R cb U) (aa R)) (aa R)) (
 al R (.str w_) U)) (aa R))))) (aa R)) (aa R)) (aa R)) (aa R)) (aa R)) (aa R))
def S9:Prop :=
 (ar (some (9,1)) (some [.str []]) 1 false [(0,(.str qF))]).wp K U (fun v7 U =>
 ae K 105 [a0,v7] U (ag (fun v8 U =>
 av v8 (
 ae K 99 [a0,(.int .u8 35)] U (ag (fun v10 U =>
 ae K 102 [a0,(.str qF)] U (ag (fun v12 U =>
 ae K 102 [a0,(.str cB)] U (ag (fun cG U =>
 ae K 106 [a0,v10,(.func (.func 278) [a0] [])] U (ag (fun de U =>
 ae K 102 [a0,(.str cg)] U (ag (fun v21 U =>
 ae K 169 [a0] U (ag (fun v24 U =>
 (ar (some (87,1)) (some [.aW]) 1 false [(0,v24)]).wp K U (fun eV U =>
 ae K 103 [v10,eV] U (ag (fun gm U =>
 al R gm U) (aa R))) (aa R)) (aa R))) (aa R))) (aa R))) (aa R))) (aa R))) (aa R))) (
 (ar (some (9,1)) (some [.str []]) 1 false [(0,(.str nf))]).wp K U (fun ep U =>
 ae K 105 [a0,ep] U (ag (fun v30 U =>
 av v30 (
 ae K 99 [a0,(.int .u8 36)] U (ag (fun fK U =>
 ae K 102 [a0,(.str nf)] U (ag (fun iK U =>
 ae K 102 [a0,(.str vI)] U (ag (fun hZ U =>
 ae K 169 [a0] U (ag (fun l8 U =>
 (ar (some (87,1)) (some [.aW]) 1 false [(0,l8)]).wp K U (fun v40 U =>
 ae K 103 [fK,v40] U (ag (fun j0 U =>
 ae K 102 [a0,(.str cn)] U (ag (fun jF U =>
 ae K 102 [a0,(.str vJ)] U (ag (fun oF U =>
 ae K 278 [a0] U (ag (fun rX U =>
 (ar (some (87,1)) (some [.aW]) 1 false [(0,rX)]).wp K U (fun v49 U =>
 ae K 103 [fK,v49] U (ag (fun ky U =>
 ae K 102 [a0,(.str tU)] U (ag (fun nN U =>
 ae K 169 [a0] U (ag (fun oG U =>
 (ar (some (87,1)) (some [.aW]) 1 false [(0,oG)]).wp K U (fun mE U =>
 ae K 103 [fK,mE] U (ag (fun q9 U =>
 ae K 102 [a0,(.str qq)] U (ag (fun v59 U =>
 al R fK U) (aa R))) (aa R))) (aa R)) (aa R))) (aa R))) (aa R))) (aa R)) (aa R))) (aa R))) (aa R))) (aa R))) (aa R)) (aa R))) (aa R))) (aa R))) (aa R))) (
 ae K 109 [a0] U (ag (fun uS U =>
 al R uS U) (aa R)))) (aa R))) (aa R))) (aa R))) (aa R)
def Tb:Prop :=
 ae K 99 [a0,(.int .u8 37)] U (ag (fun v5 U =>
 ae K 101 [a0] U (ag (fun v8 U =>
 (aV v5).wp K U (fun v9 U =>
 (af (some 0) v9).wp K U (fun v10 U =>
 (af (some 1) v10).wp K U (fun v11 U =>
 (aI aE v11 v8 U).wp K U (fun _ U =>
 al R v5 U) (aa R)) (aa R)) (aa R)) (aa R)) (aa R))) (aa R))
end
section
variable {a0 a1 a2 a3 a4 a5 a6:AV} {R:cY->St->Prop} {U:St}
theorem Gm (h:JA a0 a1 a2 a3 R U):ae K 155 [a0,a1,a2,a3] U R:=bR Tryz.f155 ZU h
theorem RQ (h:RP a0 R U):ae K 156 [a0] U R:=bR Tryz.f156 ZV h
theorem RS (h:RR a0 R U):ae K 158 [a0] U R:=bR Tryz.f158 ZW h
theorem RU (h:RT a0 R U):ae K 159 [a0] U R:=bR Tryz.f159 ZX h
theorem RW (h:RV a0 R U):ae K 160 [a0] U R:=bR Tryz.f160 ZY h
theorem RY (h:RX a0 R U):ae K 161 [a0] U R:=bR Tryz.f161 ZZ h
theorem R0 (h:RZ a0 R U):ae K 162 [a0] U R:=bR Tryz.f162 Z0 h
theorem R2 (h:R1 a0 R U):ae K 163 [a0] U R:=bR Tryz.f163 Z1 h
theorem R4 (h:R3 a0 R U):ae K 164 [a0] U R:=bR Tryz.f164 Z2 h
theorem R5 (h:ab3 a0 a1 R U):ae K 165 [a0,a1] U R:=bR Tryz.f165 Z3 h
theorem R6 (h:ab4 a0 R U):ae K 166 [a0] U R:=bR Tryz.f166 Z4 h
theorem R8 (h:R7 a0 a1 R U):ae K 167 [a0,a1] U R:=bR Tryz.f167 Z5 h
theorem R9 (h:ab5 a0 R U):ae K 168 [a0] U R:=bR Tryz.f168 Z6 h
theorem Sb (h:Sa a0 R U):ae K 169 [a0] U R:=bR Tryz.f169 Z7 h
theorem Sc (h:ab6 a0 a1 R U):ae K 178 [a0,a1] U R:=bR Tryz.f178 Z8 h
theorem Se (h:Sd a0 R U):ae K 179 [a0] U R:=bR Tryz.f179 Z9 h
theorem Sg (h:Sf a0 a1 a2 R U):ae K 180 [a0,a1,a2] U R:=bR Tryz.f180 aaa h
theorem Si (h:Sh a0 R U):ae K 181 [a0] U R:=bR Tryz.f181 aab h
theorem Gn (h:JB a0 a1 a2 R U):ae K 182 [a0,a1,a2] U R:=bR Tryz.f182 aac h
theorem Gp (h:JC a0 a1 a2 R U):ae K 183 [a0,a1,a2] U R:=bR Tryz.f183 aad h
theorem pt (h:s9 a0 a1 a2 R U):ae K 184 [a0,a1,a2] U R:=bR Tryz.f184 aae h
theorem Sm (h:Sj a0 R U):ae K 185 [a0] U R:=bR Tryz.f185 aaf h
theorem qX (h:uL a0 a1 a2 R U):ae K 186 [a0,a1,a2] U R:=bR Tryz.f186 aag h
theorem vF (h:Ae a0 a1 a2 R U):ae K 187 [a0,a1,a2] U R:=bR Tryz.f187 aah h
theorem So (h:Sn a0 a1 R U):ae K 188 [a0,a1] U R:=bR Tryz.f188 aai h
theorem Sr (h:Sq a0 a1 R U):ae K 189 [a0,a1] U R:=bR Tryz.f189 aaj h
theorem Su (h:Ss a0 R U):ae K 206 [a0] U R:=bR Tryz.f206 aak h
theorem Sw (h:Sv a0 R U):ae K 207 [a0] U R:=bR Tryz.f207 aal h
theorem Sy (h:Sx a0 R U):ae K 208 [a0] U R:=bR Tryz.f208 aam h
theorem SA (h:Sz a0 a1 R U):ae K 209 [a0,a1] U R:=bR Tryz.f209 aan h
theorem Gq (h:JD a0 a1 R U):ae K 210 [a0,a1] U R:=bR Tryz.f210 aao h
theorem Gr (h:ab7 a0 a1 R U):ae K 212 [a0,a1] U R:=bR Tryz.f212 aap h
theorem SB (h:ab8 a0 a1 R U):ae K 215 [a0,a1] U R:=bR Tryz.f215 aaq h
theorem SD (h:SC a0 R U):ae K 216 [a0] U R:=bR Tryz.f216 aar h
theorem SF (h:SE a0 a1 R U):ae K 219 [a0,a1] U R:=bR Tryz.f219 aas h
theorem SH (h:SG a0 a1 R U):ae K 230 [a0,a1] U R:=bR Tryz.f230 aat h
theorem SJ (h:SI a0 a1 R U):ae K 231 [a0,a1] U R:=bR Tryz.f231 aau h
theorem SL (h:SK a0 a1 R U):ae K 232 [a0,a1] U R:=bR Tryz.f232 aav h
theorem SN (h:SM a0 a1 R U):ae K 233 [a0,a1] U R:=bR Tryz.f233 aaw h
theorem SP (h:SO a0 a1 R U):ae K 234 [a0,a1] U R:=bR Tryz.f234 aax h
theorem SR (h:SQ a0 a1 a2 R U):ae K 235 [a0,a1,a2] U R:=bR Tryz.f235 aay h
theorem SU (h:SS a0 a1 R U):ae K 236 [a0,a1] U R:=bR Tryz.f236 aaz h
theorem SW (h:SV a0 a1 a2 R U):ae K 237 [a0,a1,a2] U R:=bR Tryz.f237 aaA h
theorem SY (h:SX a0 a1 R U):ae K 242 [a0,a1] U R:=bR Tryz.f242 aaB h
theorem S0 (h:SZ a0 a1 R U):ae K 246 [a0,a1] U R:=bR Tryz.f246 aaC h
theorem S6 (h:S5 a0 R U):ae K 252 [a0] U R:=bR Tryz.f252 aaD h
theorem S8 (h:S7 a0 R U):ae K 253 [a0] U R:=bR Tryz.f253 aaE h
theorem Ta (h:S9 a0 R U):ae K 269 [a0] U R:=bR Tryz.f269 aaF h
theorem Tc (h:Tb a0 R U):ae K 278 [a0] U R:=bR Tryz.f278 aaG h
end
end Go.Rip
