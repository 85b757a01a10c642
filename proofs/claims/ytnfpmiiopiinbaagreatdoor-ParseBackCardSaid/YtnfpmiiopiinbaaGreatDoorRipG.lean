/- Lemmas for the proof: no conditions. -/
import Derived.Test.YtnfpmiiopiinbaaGreatDoorRipZz
import Derived.Test.YtnfpmiiopiinbaaGreatDoorRipD
set_option linter.unusedVariables false
set_option linter.unusedSimpArgs false
set_option linter.loopingSimpArgs false
set_option maxRecDepth 100000
namespace Go.Rip
open Go.Proofs
def ZB:An:=ai (.bk (.lp [0,2,3,5] (bh (ai (.cd .z .z)) (bh (.bk (ai (.cd .z .z))) cL))))
def ZC:An:=ai (ai (ai .z))
def ZD:An:=ai (ai (bh (ai (.bk (.lp [0,3,8,9,10] (ai (bh (.cd .z .z) (bh (.bk (ai (ai cL))) cL)))))) (ai .z)))
def ZE:An:=ai (ai (bh (ai (.bk (.lp [0,3,8,9,10] (ai (bh (.cd .z .z) (bh (.bk (ai (ai cL))) cL)))))) (ai .z)))
def ZF:An:=ai (ai (ai (ai (ai (ai (ai (ai (ai (ai .z)))))))))
def ZG:An:=ai (ai (ai (ai (ai (ai (ai (ai .z)))))))
def ZH:An:=ai (ai (ai (ai (ai (ai .z)))))
def ZI:An:=ai (ai (ai (ai (ai (ai (ai (ai .z)))))))
def ZJ:An:=ai (bh (bh (.rg [] [] (some ⟨[(true,0),(true,1),(true,2),(true,3),(true,4),(true,5),(true,6),(true,7),(true,8),(true,9)],[⟨8,1,0⟩,⟨16,8,1⟩,⟨32,16,2⟩,⟨64,32,4⟩,⟨128,1,0⟩,⟨256,128,16⟩,⟨512,256,32⟩,⟨1024,512,64⟩,⟨2048,1024,128⟩,⟨4096,2112,264⟩]⟩)) (.cd (bh (.rg [] [] (some ⟨[(true,0),(true,1),(true,2),(true,3),(true,4),(true,5),(true,6),(true,7),(true,8),(true,9),(true,10),(true,11)],[⟨8192,1,0⟩,⟨16384,8192,1⟩,⟨32768,16384,2⟩,⟨65536,32768,4⟩,⟨131072,1,0⟩,⟨262144,131072,16⟩,⟨524288,262144,32⟩,⟨1048576,524288,64⟩,⟨2097152,1114112,136⟩,⟨4194304,2097152,256⟩,⟨8388608,4194304,512⟩,⟨4,8388608,2047⟩]⟩)) .z) .z)) (ai .z))
def ZK:An:=ai (ai (.sq (some [0,5]) (ai (.cd cL .z)) (ai (ai .z))))
def ZL:An:=cL
def ZM:An:=ai (bh (bh (.rg [] [] (some ⟨[(true,0),(true,1),(true,2),(true,3),(true,4),(true,5),(true,6),(true,7),(true,8),(true,9),(true,10),(true,11)],[⟨32,1,0⟩,⟨64,32,1⟩,⟨128,64,2⟩,⟨256,128,4⟩,⟨512,2,0⟩,⟨1024,768,24⟩,⟨2048,1,0⟩,⟨4096,2048,64⟩,⟨8192,4096,128⟩,⟨16384,8192,256⟩,⟨32768,16384,512⟩,⟨65536,33792,1056⟩]⟩)) (.cd (bh (.rg [] [] (some ⟨[(true,0),(true,1),(true,2),(true,3),(true,4),(true,5),(true,6),(true,7),(true,8),(true,9),(true,10),(true,11),(false,12)],[⟨131072,1,0⟩,⟨262144,131072,1⟩,⟨524288,262144,2⟩,⟨1048576,524288,4⟩,⟨2097152,1,0⟩,⟨4194304,2097152,16⟩,⟨8388608,4194304,32⟩,⟨16777216,8388608,64⟩,⟨33554432,2,0⟩,⟨67108864,50331648,384⟩,⟨134217728,68157440,520⟩,⟨268435456,134217728,1024⟩,⟨0,268435472,4095⟩]⟩)) .z) .z)) (ai .z))
def ZN:An:=ai (ai (.sq (some [3]) (ai (.cd cL .z)) (ai .z)))
def ZO:An:=ai (ai (bh (bh (.rg [] [] (some ⟨[(true,0),(true,1),(true,2),(true,3),(true,4),(true,5),(true,6),(true,7),(true,8),(true,9),(true,10),(true,11)],[⟨1024,1,0⟩,⟨2048,1024,1⟩,⟨4096,2048,2⟩,⟨8192,4096,4⟩,⟨16384,8,0⟩,⟨32768,16384,16⟩,⟨65536,40960,40⟩,⟨512,65536,64⟩,⟨131072,512,128⟩,⟨262144,512,128⟩,⟨16,131072,511⟩,⟨32,262144,2047⟩]⟩)) (ai (.cd (ai .z) .z))) (bh (.sq (some [0,36]) (.rg [] [121] none) (.cd (ai (ai (ai (ai .z)))) .z)) (ai .z))))
def ZP:An:=ai (ai .z)
def ZQ:An:=ai (ai .z)
def ZR:An:=ai (ai (ai (.sq (some [0]) (ai (.cd (ai cL) (ai (ai (ai (ai (ai (ai cL)))))))) cL)))
def ZS:An:=ai (ai .z)
def ZT:An:=ai (.bk (ai (.cd (ai (ai (ai (ai cL)))) (ai (.cd cL (ai (.cd cL (ai cL))))))))
def ZU:An:=ai (bh (ai (.cd (ai (ai .z)) .z)) (ai (ai (.sq (some [0,2,4,6,7]) (ai (.cd cL .z)) (ai (bh (ai (.bk (.lp [0,2,4,6,42] (ai (bh (.cd .z .z) (.bk (ai (ai (.cd cL .z))))))))) (bh (ai (.cd (ai .z) .z)) cL)))))))
def ZV:An:=ai (ai (.bk (ai (.cd (ai (ai (.bk (.lp [0,18,19,20] (ai (bh (.cd .z .z) (bh (.bk (ai cL)) cL))))))) (ai (.cd cL (ai (.cd cL (ai (.cd cL (ai (.cd (ai (ai (ai (ai (ai (ai cL)))))) (ai (.cd (ai (ai cL)) (ai (.cd (ai cL) (ai (.cd (ai (ai (ai (ai cL)))) .z))))))))))))))))))
def ZW:An:=ai (ai .z)
def ZX:An:=ai (ai (.bk (ai (.cd cL (ai (.cd (ai cL) (ai (.cd (ai cL) (ai (.cd cL (ai (.cd (ai (ai (ai cL))) cL))))))))))))
def ZY:An:=ai (ai (.bk (ai (.cd (ai (ai cL)) (ai (.cd cL (ai (.cd (ai (ai (ai cL))) (ai (.cd (ai (ai (ai (ai (ai cL))))) .z))))))))))
def ZZ:An:=ai (bh (ai (.cd (ai .z) .z)) (ai .z))
def Z0:An:=ai (ai (ai (ai .z)))
def Z1:An:=ai (ai .z)
def Z2:An:=ai (ai .z)
def Z3:An:=ai (ai (ai .z))
def Z4:An:=ai (bh (ai (.bk (.lp [0,1,11,12,13] (ai (bh (.cd .z .z) (bh (.bk (ai (ai (bh (ai (.bk (.lp [0,1,6,7,11,12,13,21,22,23] (ai (bh (.cd .z .z) (bh (.bk (ai cL)) cL)))))) (ai (bh (.bk (.lp [0,1,6,7,10,11,12,13] (bh (.sq (some [0,1,6,7,10,11,12,13,52]) (.rg [] [] (some ⟨[(true,0),(true,1),(true,2),(true,3),(true,4),(true,5),(true,6),(true,7),(true,8),(true,9),(true,10),(true,11),(true,12),(true,13),(true,14),(true,15),(true,16),(true,17),(true,18),(false,19),(true,20)],[⟨4294967296,1024,0⟩,⟨8589934592,1,0⟩,⟨17179869184,8589934592,2⟩,⟨34359738368,128,0⟩,⟨68719476736,51539607552,12⟩,⟨137438953472,73014444032,17⟩,⟨274877906944,137438953472,32⟩,⟨549755813888,274877907968,64⟩,⟨1099511627776,274877907008,64⟩,⟨2199023255552,1374389534720,320⟩,⟨4398046511104,3023656976384,704⟩,⟨8796093022208,4672924418048,1088⟩,⟨17592186044416,8796093022208,2112⟩,⟨35184372088832,17592186044480,4096⟩,⟨70368744177664,52776558133248,12288⟩,⟨140737488355328,17592186044417,4096⟩,⟨281474976710656,17592186045440,4096⟩,⟨562949953421312,439804651110400,102400⟩,⟨1125899906842624,580542139465728,135168⟩,⟨2251799813685248,1213860837064704,282624⟩,⟨4503599627370496,2269391999729664,528384⟩]⟩)) (.cd .z .z)) (.bk cL)))) (bh (ai (.cd (ai .z) .z)) cL))))))) cL)))))) (ai .z))
def Z5:An:=ai (bh (ai (.bk (.lp [0,1,7,8] (ai (bh (.cd .z .z) (bh (.bk (ai (ai (.cd (ai .z) .z)))) cL)))))) (ai .z))
def Z6:An:=ai (bh (ai (ai (.cd (bh (.rg [] [] (some ⟨[(true,0),(true,1),(true,2),(true,3),(true,4),(true,5),(true,6),(true,7),(true,8),(true,9),(true,10),(true,11)],[⟨8192,1,0⟩,⟨16384,128,0⟩,⟨32768,24576,3⟩,⟨65536,1,0⟩,⟨131072,128,0⟩,⟨262144,2,0⟩,⟨524288,262144,32⟩,⟨1048576,655360,80⟩,⟨2097152,1114112,136⟩,⟨16,32768,7⟩,⟨32,2097152,1023⟩,⟨64,0,2047⟩]⟩)) .z) .z))) (ai .z))
def Z7:An:=ai (ai .z)
def Z8:An:=ai (bh (.bk (ai (.cd (ai .z) (ai (.cd (ai .z) (ai (.cd (ai .z) (ai (.cd (ai .z) (ai (.cd (ai .z) .z))))))))))) (ai .z))
def Z9:An:=ai (bh (ai (.bk (ai (.cd (ai .z) (ai (.cd (bh (ai (ai (.cd (ai .z) .z))) (ai .z)) .z)))))) (ai (.bk (.lp [0,1,6] (.bk (bh (.rg [] [] (some ⟨[(true,0),(true,1),(true,2),(true,3),(true,4),(true,5),(true,6),(false,7),(true,8),(true,9),(true,10),(true,11),(true,12),(true,13)],[⟨34359738368,1,0⟩,⟨68719476736,34359738368,1⟩,⟨137438953472,68719476736,2⟩,⟨274877906944,137438953472,4⟩,⟨549755813888,2,0⟩,⟨1099511627776,824633720832,24⟩,⟨2199023255552,1,0⟩,⟨4398046511104,2199023255552,64⟩,⟨8796093022208,5497558138880,160⟩,⟨17179869184,8796093022208,256⟩,⟨17592186044416,17179869184,512⟩,⟨35184372088832,17179869184,512⟩,⟨128,17592186044416,2047⟩,⟨256,35184372088832,8191⟩]⟩)) (bh (ai (.cd (ai .z) .z)) (ai (ai (bh (ai (.cd (ai (ai .z)) .z)) (ai (ai (.cd (ai .z) .z)))))))))))))
def aaa:An:=ai (bh (ai (.bk (.lp [0,1,7,8] (ai (bh (.cd .z .z) (bh (.bk (ai (ai (.cd (ai .z) .z)))) cL)))))) (ai .z))
def aab:An:=ai (.bk (.lp [0,7,8,9] (ai (bh (.cd .z .z) (bh (.bk (ai (ai (.sq (some [0,5,6,7,8,9]) (ai (.cd cL .z)) cL)))) cL)))))
def aac:An:=cL
def aad:An:=ai (.bk (.lp [0,6,7,8] (ai (bh (.cd .z .z) (bh (.bk (ai (.sq (some [0,5,6,7,8]) (ai (.cd cL .z)) cL))) cL)))))
def aae:An:=.rg [] [] (some ⟨[(true,0),(true,1),(true,2),(true,3),(true,4),(true,5),(true,6),(true,7),(true,8),(false,9),(true,10),(true,11),(false,12)],[⟨16,1,0⟩,⟨32,1,0⟩,⟨64,32,2⟩,⟨128,64,4⟩,⟨256,128,8⟩,⟨512,2,0⟩,⟨1024,512,32⟩,⟨2048,1024,64⟩,⟨4096,2048,128⟩,⟨8192,4352,336⟩,⟨16384,16,1023⟩,⟨32768,16384,2047⟩,⟨0,40960,3071⟩]⟩)
def aaf:An:=bh (ai (.cd (ai .z) .z)) (ai (ai cL))
def aag:An:=ai (bh (ai (.bk (.lp [1,13] (ai (bh (.cd .z .z) (.bk (ai (ai (.bk (.lp [1,5,13,20] (ai (bh (.cd .z .z) (.bk (ai (ai (.cd (ai .z) .z)))))))))))))))) (bh (.bk (ai (.cd (ai .z) (ai (.cd (ai .z) (ai (.cd (ai .z) .z))))))) (ai .z)))
def aah:An:=ai (.bk (.lp [0,2,8,9,10] (ai (bh (.cd .z .z) (bh (.bk (ai (ai cL))) cL)))))
def aai:An:=ai (ai .z)
def aaj:An:=ai (bh (ai (.bk (.lp [0,1,7,8] (ai (bh (.cd .z .z) (bh (.bk (ai (ai (.cd (ai .z) .z)))) cL)))))) (ai .z))
def aak:An:=ai (ai (bh (ai (ai (.cd (ai (ai (.sq (some [6]) (ai (.cd cL .z)) (ai .z)))) .z))) (bh (ai (.cd (ai (ai (ai .z))) .z)) (bh (ai (.cd (ai (ai (ai .z))) .z)) (ai (ai (.sq (some [9]) (ai (.cd (ai (ai cL)) .z)) (ai .z))))))))
def aal:An:=ai (bh (ai (ai (.cd (ai .z) .z))) (ai .z))
def aam:An:=ai (bh (.bk (ai (.cd (ai (ai (ai (ai (ai (ai .z)))))) (ai (.cd (ai (ai (ai (ai (ai (ai (ai (ai (ai (ai (ai .z))))))))))) .z))))) (ai .z))
def aan:An:=ai (ai (ai (ai .z)))
section
variable (a0 a1 a2 a3 a4 a5 a6:AV) (R:cR->St->Prop) (U:St)
def Jb:Prop :=
 (aj aE a1 U).wp K U (fun v6 U =>
 (ax .add aS true v6 (.int .i64 1)).wp K U (fun v7 U =>
 eW 4 [a0,a2,a3,v7] U fun lp v0 v2 v3 v5 U =>
 (aj aE v2 U).wp K U (fun v9 U =>
 (ax .lss aS false v5 v9).wp K U (fun v10 U =>
 ao K (aP v10 true) (af (some 0) v3) (fun v12 =>
 ao K (aP v10 true) (af (some 0) v12) (fun ck =>
 ao K (aP v10 true) (aj aE ck U) (fun ct =>
 ao K (aP v10 true) (aD.val v5) (fun bZ =>
 ao K (aP v10 true) (aL (some (43,6)) none ct bZ) (fun cO =>
 ao K (aP v10 true) (af (some 5) cO) (fun dv =>
 ao K (aP v10 true) (aj aE dv U) (fun cu =>
 ao K (aP v10 true) (ax .gtr aS true cu (.int .i64 0)) (fun da =>
 (bQ v10 da (.bool false)).wp K U (fun v20 U =>
 aw v20 (
 (iN K.P v0 [v5]).wp K U (fun fI U =>
 (kr .not fI).wp K U (fun fC U =>
 aw fC (
 ak R (.aH []) U) (
 (af (some 0) v3).wp K U (fun dL U =>
 (af (some 0) dL).wp K U (fun dZ U =>
 (aj aE dZ U).wp K U (fun v24 U =>
 (aL (some (43,6)) none v24 v5).wp K U (fun fR U =>
 (af (some 5) fR).wp K U (fun dW U =>
 (aj aE dW U).wp K U (fun v28 U =>
 (ax .add aS false v5 v28).wp K U (fun ej U =>
 lp v0 v2 v3 ej U) (aa R)) (aa R)) (aa R)) (aa R)) (aa R)) (aa R)) (aa R))) (aa R)) (aa R)) (
 ak R (.aH []) U)) (aa R)))))))))) (aa R)) (aa R)) (aa R)) (aa R)
def Ra:Prop :=
 (eS a0).wp K U (fun v1 U =>
 (af (some 1) v1).wp K U (fun v6 U =>
 (aj aE v6 U).wp K U (fun v7 U =>
 ae K 77 [v7] U (ag (fun v8 U =>
 (aT v8 0).wp K U (fun v9 U =>
 (aT v8 1).wp K U (fun v10 U =>
 (aD.cE [.int .u8 0,.str [],.int .i64 0]).wp K U (fun v3 U =>
 (aF (some (true,3)) v3 v9 U).wp K U (fun _ U =>
 (ax .eql aS true v10 (.int .i64 0)).wp K U (fun v12 U =>
 ao K (aP v12 true) (af (some 0) v3) (fun ct =>
 ao K (aP v12 true) (aj aE ct U) (fun bZ =>
 ao K (aP v12 true) (af (some 0) v1) (fun cO =>
 ao K (aP v12 true) (aj aE cO U) (fun dv =>
 ao K (aP v12 true) (ax .eql aS false bZ dv) (fun cu =>
 (bQ v12 cu (.bool false)).wp K U (fun da U =>
 ao K (aP da true) (af (some 1) v3) (fun v21 =>
 ao K (aP da true) (aj aE v21 U) (fun dL =>
 ao K (aP da true) (af (some 1) v1) (fun dZ =>
 ao K (aP da true) (aj aE dZ U) (fun v24 =>
 ao K (aP da true) (ax .eql aS false dL v24) (fun eR =>
 (bQ da eR (.bool false)).wp K U (fun fR U =>
 ak R fR U) (aa R))))))) (aa R))))))) (aa R)) (aa R)) (aa R)) (aa R)) (aa R)) (aa R))) (aa R)) (aa R)) (aa R)
def Rc:Prop :=
 ae K 99 [a0,(.int .u8 10)] U (ag (fun v7 U =>
 (ar (some (9,1)) (some [.str []]) 3 false [(0,(.str oe)),(1,(.str oy)),(2,(.str eU))]).wp K U (fun v8 U =>
 (cw (some false) v8).wp K U (fun v9 U =>
 eW 5 [a0,v7,v8,v9,(.int .i64 0)] U fun lp v0 v3 pw lR v10 U =>
 (ax .lss aS false v10 lR).wp K U (fun v11 U =>
 aw v11 (
 (aL (some (9,1)) none pw v10).wp K U (fun v12 U =>
 (aj aE v12 U).wp K U (fun ck U =>
 ae K 102 [v0,ck] U (ag (fun cO U =>
 ae K 169 [v0] U (ag (fun da U =>
 (ar (some (87,1)) (some [.aY]) 1 false [(0,da)]).wp K U (fun v20 U =>
 ae K 103 [v3,v20] U (ag (fun v21 U =>
 (ax .add aS true v10 (.int .i64 1)).wp K U (fun dL U =>
 lp v0 v3 pw lR dL U) (aa R)) (aa R))) (aa R)) (aa R))) (aa R))) (aa R)) (aa R)) (
 ak R v3 U)) (aa R)) (aa R)) (aa R)) (aa R))
def Rf:Prop :=
 ae K 99 [a0,(.int .u8 11)] U (ag (fun v7 U =>
 (ar (some (9,1)) (some [.str []]) 2 false [(0,(.str fW)),(1,(.str sE))]).wp K U (fun v8 U =>
 (cw (some false) v8).wp K U (fun v9 U =>
 eW 5 [a0,v7,v8,v9,(.int .i64 0)] U fun lp v0 v3 pw lR v10 U =>
 (ax .lss aS false v10 lR).wp K U (fun v11 U =>
 aw v11 (
 (aL (some (9,1)) none pw v10).wp K U (fun v12 U =>
 (aj aE v12 U).wp K U (fun ck U =>
 ae K 102 [v0,ck] U (ag (fun cO U =>
 ae K 169 [v0] U (ag (fun da U =>
 (ar (some (87,1)) (some [.aY]) 1 false [(0,da)]).wp K U (fun v20 U =>
 ae K 103 [v3,v20] U (ag (fun v21 U =>
 (ax .add aS true v10 (.int .i64 1)).wp K U (fun dL U =>
 lp v0 v3 pw lR dL U) (aa R)) (aa R))) (aa R)) (aa R))) (aa R))) (aa R)) (aa R)) (
 ak R v3 U)) (aa R)) (aa R)) (aa R)) (aa R))
def Ri:Prop :=
 ae K 99 [a0,(.int .u8 12)] U (ag (fun v5 U =>
 ae K 102 [a0,(.str kQ)] U (ag (fun v7 U =>
 ae K 101 [a0] U (ag (fun v10 U =>
 (aW v5).wp K U (fun v11 U =>
 (af (some 0) v11).wp K U (fun v12 U =>
 (af (some 1) v12).wp K U (fun ck U =>
 (aF aE ck v10 U).wp K U (fun _ U =>
 ae K 102 [a0,(.str ez)] U (ag (fun bZ U =>
 ae K 168 [a0] U (ag (fun cu U =>
 (aW v5).wp K U (fun da U =>
 (af (some 0) da).wp K U (fun v20 U =>
 (af (some 2) v20).wp K U (fun v21 U =>
 (aF aE v21 cu U).wp K U (fun _ U =>
 ae K 102 [a0,(.str bV)] U (ag (fun dZ U =>
 ae K 168 [a0] U (ag (fun fR U =>
 (aW v5).wp K U (fun dW U =>
 (af (some 0) dW).wp K U (fun v28 U =>
 (af (some 3) v28).wp K U (fun ej U =>
 (aF aE ej fR U).wp K U (fun _ U =>
 ae K 102 [a0,(.str kK)] U (ag (fun v31 U =>
 ae K 169 [a0] U (ag (fun ic U =>
 (ar (some (87,1)) (some [.aY]) 1 false [(0,ic)]).wp K U (fun hU U =>
 ae K 103 [v5,hU] U (ag (fun hX U =>
 ak R hX U) (aa R))) (aa R)) (aa R))) (aa R))) (aa R)) (aa R)) (aa R)) (aa R)) (aa R))) (aa R))) (aa R)) (aa R)) (aa R)) (aa R)) (aa R))) (aa R))) (aa R)) (aa R)) (aa R)) (aa R)) (aa R))) (aa R))) (aa R))
def Rk:Prop :=
 ae K 99 [a0,(.int .u8 13)] U (ag (fun v5 U =>
 ae K 102 [a0,(.str ij)] U (ag (fun v7 U =>
 ae K 101 [a0] U (ag (fun v10 U =>
 (aW v5).wp K U (fun v11 U =>
 (af (some 0) v11).wp K U (fun v12 U =>
 (af (some 1) v12).wp K U (fun ck U =>
 (aF aE ck v10 U).wp K U (fun _ U =>
 ae K 102 [a0,(.str kK)] U (ag (fun bZ U =>
 ae K 169 [a0] U (ag (fun cu U =>
 (ar (some (87,1)) (some [.aY]) 1 false [(0,cu)]).wp K U (fun da U =>
 ae K 103 [v5,da] U (ag (fun v20 U =>
 ae K 102 [a0,(.str eU)] U (ag (fun dL U =>
 ae K 169 [a0] U (ag (fun eR U =>
 (ar (some (87,1)) (some [.aY]) 1 false [(0,eR)]).wp K U (fun fR U =>
 ae K 103 [v5,fR] U (ag (fun dW U =>
 ak R dW U) (aa R))) (aa R)) (aa R))) (aa R))) (aa R))) (aa R)) (aa R))) (aa R))) (aa R)) (aa R)) (aa R)) (aa R)) (aa R))) (aa R))) (aa R))
def Rm:Prop :=
 ae K 99 [a0,(.int .u8 15)] U (ag (fun v5 U =>
 ae K 102 [a0,(.str gq)] U (ag (fun v7 U =>
 ae K 169 [a0] U (ag (fun v10 U =>
 (ar (some (87,1)) (some [.aY]) 1 false [(0,v10)]).wp K U (fun v11 U =>
 ae K 103 [v5,v11] U (ag (fun v12 U =>
 ae K 102 [a0,(.str eU)] U (ag (fun ct U =>
 ae K 169 [a0] U (ag (fun dv U =>
 (ar (some (87,1)) (some [.aY]) 1 false [(0,dv)]).wp K U (fun cu U =>
 ae K 103 [v5,cu] U (ag (fun da U =>
 ak R da U) (aa R))) (aa R)) (aa R))) (aa R))) (aa R))) (aa R)) (aa R))) (aa R))) (aa R))
def Rq:Prop :=
 ae K 99 [a0,(.int .u8 14)] U (ag (fun v5 U =>
 ae K 102 [a0,(.str hZ)] U (ag (fun v7 U =>
 ae K 101 [a0] U (ag (fun v10 U =>
 (aW v5).wp K U (fun v11 U =>
 (af (some 0) v11).wp K U (fun v12 U =>
 (af (some 1) v12).wp K U (fun ck U =>
 (aF aE ck v10 U).wp K U (fun _ U =>
 ae K 102 [a0,(.str bV)] U (ag (fun bZ U =>
 ae K 168 [a0] U (ag (fun cu U =>
 (aW v5).wp K U (fun da U =>
 (af (some 0) da).wp K U (fun v20 U =>
 (af (some 2) v20).wp K U (fun v21 U =>
 (aF aE v21 cu U).wp K U (fun _ U =>
 ae K 102 [a0,(.str kK)] U (ag (fun dZ U =>
 ae K 169 [a0] U (ag (fun fR U =>
 (ar (some (87,1)) (some [.aY]) 1 false [(0,fR)]).wp K U (fun dW U =>
 ae K 103 [v5,dW] U (ag (fun v28 U =>
 ak R v28 U) (aa R))) (aa R)) (aa R))) (aa R))) (aa R)) (aa R)) (aa R)) (aa R)) (aa R))) (aa R))) (aa R)) (aa R)) (aa R)) (aa R)) (aa R))) (aa R))) (aa R))
def Rs:Prop :=
 (fun aq:St =>
 aB K (aW a0) (fun v4 =>
 aB K (af (some 1) v4) (fun v5 =>
 aB K (aj aE v5 aq) (fun v6 =>
 aB K (aW a0) (fun v8 =>
 aB K (af (some 0) v8) (fun v9 =>
 aB K (aj aE v9 aq) (fun v10 =>
 aB K (cw (some false) v10) (fun v11 =>
 aB K (ax .lss aS false v6 v11) (fun v12 =>
 aw v12 (
 (fun qq:St =>
 aB K (aW a0) (fun ct =>
 aB K (af (some 0) ct) (fun bZ =>
 aB K (aj aE bZ qq) (fun cO =>
 aB K (aW a0) (fun cu =>
 aB K (af (some 1) cu) (fun da =>
 aB K (aj aE da qq) (fun v20 =>
 aB K (aL (some (51,3)) none cO v20) (fun v21 =>
 aB K (af (some 2) v21) (fun dL =>
 aB K (aj aE dL qq) (fun dZ =>
 ak R dZ U)))))))))) U) (
 (aW a0).wp K U (fun eR U =>
 (af (some 2) eR).wp K U (fun fR U =>
 (aj aE fR U).wp K U (fun dW U =>
 ak R dW U) (aa R)) (aa R)) (aa R))))))))))) U
def abJ:Prop :=
 ae K 167 [a0,(.int .i64 0)] U (ag (fun v7 U =>
 (aD.cE [.int .u8 0,.str [],.int .i64 0]).wp K U (fun v5 U =>
 (aF (some (true,3)) v5 v7 U).wp K U (fun _ U =>
 jR 2 (fun v0 yo U =>
 (aW v0).wp K U (fun bZ U =>
 (af (some 1) bZ).wp K U (fun cO U =>
 (aj aE cO U).wp K U (fun dv U =>
 (ax .add aS true dv (.int .i64 1)).wp K U (fun cu U =>
 (aW v0).wp K U (fun da U =>
 (af (some 1) da).wp K U (fun v20 U =>
 (aF aE v20 cu U).wp K U (fun _ U =>
 (af (some 1) yo).wp K U (fun v21 U =>
 (aj aE v21 U).wp K U (fun dL U =>
 ak R dL U) (aa R)) (aa R)) (aa R)) (aa R)) (aa R)) (aa R)) (aa R)) (aa R)) (aa R)) fun j =>
 (af (some 0) v5).wp K U (fun v8 U =>
 (aj aE v8 U).wp K U (fun v9 U =>
 (ax .neq aS false v9 a1).wp K U (fun v11 U =>
 aw v11 (
 ae K 166 [a0] U (ag (fun ck U =>
 j a0 v5 U) (aa R))) (
 j a0 v5 U)) (aa R)) (aa R)) (aa R)) (aa R)) (aa R)) (aa R))
def abK:Prop :=
 ae K 164 [a0] U (ag (fun v3 U =>
 (dO (some [(0,1)]) (some [.int .i64 0]) none [(0,v3)]).wp K U (fun v4 U =>
 (xT true 136 v4).wp K U (fun v5 U =>
 (uA v5).wp K U (fun _ U =>
 ak R (.aH []) U) (aa R)) (aa R)) (aa R)) (aa R))
def Ry:Prop :=
 (aD.cE [.int .u8 0,.str [],.int .i64 0]).wp K U (fun v4 U =>
 (fun aq:St =>
 aB K (aW a0) (fun v6 =>
 aB K (af (some 1) v6) (fun v7 =>
 aB K (aj aE v7 aq) (fun v8 =>
 aB K (ax .add aS false v8 a1) (fun v10 =>
 aB K (aW a0) (fun v12 =>
 aB K (af (some 0) v12) (fun ck =>
 aB K (aj aE ck aq) (fun ct =>
 aB K (cw (some false) ct) (fun bZ =>
 aB K (ax .lss aS false v10 bZ) (fun cO =>
 aw cO (
 (fun qq:St =>
 aB K (aW a0) (fun cu =>
 aB K (af (some 0) cu) (fun da =>
 aB K (aj aE da qq) (fun v20 =>
 aB K (aW a0) (fun dL =>
 aB K (af (some 1) dL) (fun dZ =>
 aB K (aj aE dZ qq) (fun v24 =>
 aB K (ax .add aS false v24 a1) (fun fR =>
 aB K (aL (some (51,3)) none v20 fR) (fun dW =>
 aB K (aj (some (true,3)) dW qq) (fun v28 =>
 (aF (some (true,3)) v4 v28 U).wp K U (fun _ U =>
 bq (some (true,3)) v4 U fun r0 =>
 ak R r0 U) (aa R))))))))))) U) (
 (dO (some [(0,1),(1,1),(2,1)]) (some [.int .u8 0,.str [],.int .i64 0]) none []).wp K U (fun ej U =>
 (aF (some (true,3)) v4 ej U).wp K U (fun _ U =>
 bq (some (true,3)) v4 U fun nW =>
 ak R nW U) (aa R)) (aa R)))))))))))) U) (aa R)
def abL:Prop :=
 ae K 165 [a0,(.int .u8 2)] U (ag (fun v7 U =>
 ae K 218 [v7] U (ag (fun v8 U =>
 (aT v8 0).wp K U (fun v9 U =>
 (aT v8 1).wp K U (fun v10 U =>
 jR 1 (fun v3 U =>
 ak R v3 U) fun j =>
 (ax .neq (BT.mk false true false none false) true v10 .dr).wp K U (fun v12 U =>
 aw v12 (
 ae K 166 [a0] U (ag (fun ct U =>
 j v9 U) (aa R))) (
 j v9 U)) (aa R)) (aa R)) (aa R)) (aa R))) (aa R))
def RB:Prop :=
 ae K 167 [a0,(.int .i64 0)] U (ag (fun v8 U =>
 (aD.cE [.int .u8 0,.str [],.int .i64 0]).wp K U (fun v3 U =>
 (aF (some (true,3)) v3 v8 U).wp K U (fun _ U =>
 (fun aq:St =>
 aB K (aW a0) (fun v11 =>
 aB K (af (some 4) v11) (fun v12 =>
 aB K (aj aE v12 aq) (fun ck =>
 aB K (af (some 1) v3) (fun ct =>
 aB K (aj aE ct aq) (fun bZ =>
 aB K (et (some (.s,186)) (some .dV) ck bZ true aq) (fun cO =>
 aB K (aT cO 0) (fun dv =>
 aB K (aT cO 1) (fun cu =>
 ao K (aP cu true) (af (some 0) v3) (fun v21 =>
 ao K (aP cu true) (aj aE v21 U) (fun dL =>
 ao K (aP cu true) (ax .eql aS true dL (.int .u8 3)) (fun dZ =>
 (bQ cu dZ (.bool false)).wp K U (fun v24 U =>
 aw v24 (
 (iN K.P dv [a0]).wp K U (fun dW U =>
 ak R dW U) (aa R)) (
 jR 2 (fun v0 hX U =>
 aw hX (
 ae K 99 [v0,(.int .u8 16)] U (ag (fun gH U =>
 ae K 101 [v0] U (ag (fun jv U =>
 (aW gH).wp K U (fun lO U =>
 (af (some 0) lO).wp K U (fun iW U =>
 (af (some 1) iW).wp K U (fun nz U =>
 (aF aE nz jv U).wp K U (fun _ U =>
 ae K 102 [v0,(.str bV)] U (ag (fun v46 U =>
 ae K 169 [v0] U (ag (fun v49 U =>
 (ar (some (87,1)) (some [.aY]) 1 false [(0,v49)]).wp K U (fun jG U =>
 ae K 103 [gH,jG] U (ag (fun v51 U =>
 ak R v51 U) (aa R))) (aa R)) (aa R))) (aa R))) (aa R)) (aa R)) (aa R)) (aa R)) (aa R))) (aa R))) (
 ae K 219 [v0,(.int .i64 2)] U (ag (fun v53 U =>
 ak R v53 U) (aa R)))) fun j =>
 (af (some 0) v3).wp K U (fun v28 U =>
 (aj aE v28 U).wp K U (fun ej U =>
 (ax .eql aS true ej (.int .u8 1)).wp K U (fun v30 U =>
 ao K (aP v30 true) (aD.val a0) (fun fI =>
 aw (aP v30 true) (
 ae K 167 [fI,(.int .i64 1)] U (ag (fun fC U =>
 ao K (aP v30 true) (ar (some (9,1)) (some [.str []]) 1 false [(0,(.str bV))]) (fun ic =>
 ao K (aP v30 true) (aD.enter 121 [fC,ic]) (fun hU =>
 (bQ v30 hU (.bool false)).wp K U (fun qo U =>
 j a0 qo U) (aa R)))) (aa R))) (
 ao K (aP v30 true) (ar (some (9,1)) (some [.str []]) 1 false [(0,(.str bV))]) (fun DI =>
 ao K (aP v30 true) (aD.enter 121 [(.aH []),DI]) (fun DJ =>
 (bQ v30 DJ (.bool false)).wp K U (fun aec U =>
 j a0 aec U) (aa R)))))) (aa R)) (aa R)) (aa R))) (aa R))))))))))))) U) (aa R)) (aa R)) (aa R))
def abM:Prop :=
 ae K 230 [a0,a1] U (ag (fun v7 U =>
 (ax .geq aS true v7 (.int .i64 0)).wp K U (fun v8 U =>
 ak R v8 U) (aa R)) (aa R))
def RE:Prop :=
 (ax .geq aS true a0 (.int .u8 2)).wp K U (fun v4 U =>
 ao K (aP v4 true) (aD.val a0) (fun v6 =>
 ao K (aP v4 true) (ax .leq aS true v6 (.int .u8 4)) (fun v7 =>
 (bQ v4 v7 (.bool false)).wp K U (fun v8 U =>
 ak R v8 U) (aa R)))) (aa R)
def RG:Prop :=
 (eS a1).wp K U (fun v4 U =>
 (aD.vg).wp K U (fun v8 U =>
 (dX (some (.i,9)) v8 (.int .u8 2) (.str dI) U).wp K U (fun _ U =>
 (dX (some (.i,9)) v8 (.int .u8 3) (.str ga) U).wp K U (fun _ U =>
 (dX (some (.i,9)) v8 (.int .u8 4) (.str eg) U).wp K U (fun _ U =>
 (af (some 0) v4).wp K U (fun v10 U =>
 (aj aE v10 U).wp K U (fun v11 U =>
 (et (some (.i,9)) (some (.str [])) v8 v11 false U).wp K U (fun v12 U =>
 (ar (some (9,1)) (some [.str []]) 1 false [(0,v12)]).wp K U (fun ck U =>
 ae K 231 [a0,ck] U (ag (fun ct U =>
 (af (some 1) v4).wp K U (fun cO U =>
 (aj aE cO U).wp K U (fun dv U =>
 ae K 232 [a0,dv] U (ag (fun cu U =>
 jR 1 (fun v0 U =>
 (ar (some (9,1)) (some [.str []]) 1 false [(0,(.str cH))]).wp K U (fun nK U =>
 ae K 231 [v0,nK] U (ag (fun xd U =>
 ak R (.aH []) U) (aa R))) (aa R)) fun j =>
 (af (some 0) v4).wp K U (fun da U =>
 (aj aE da U).wp K U (fun v20 U =>
 (ax .eql aS true v20 (.int .u8 2)).wp K U (fun v21 U =>
 aw v21 (
 (ar (some (9,1)) (some [.str []]) 1 false [(0,(.str ez))]).wp K U (fun dZ U =>
 ae K 231 [a0,dZ] U (ag (fun v24 U =>
 (aL (some (3,1)) none a2 (.int .i64 0)).wp K U (fun dW U =>
 (aj aE dW U).wp K U (fun v28 U =>
 ae K 123 [a0,v28] U (ag (fun ej U =>
 j a0 U) (aa R))) (aa R)) (aa R)) (aa R))) (aa R)) (
 (cw (some false) a2).wp K U (fun v31 U =>
 (ax .sub aS true v31 (.int .i64 2)).wp K U (fun fI U =>
 (ar (some (9,1)) (some [.str []]) 1 false [(0,(.str cP))]).wp K U (fun ic U =>
 ae K 231 [a0,ic] U (ag (fun hU U =>
 (fG false (some (3,1)) a2 none (some fI)).wp K U (fun lN U =>
 ae K 233 [a0,lN] U (ag (fun v40 U =>
 (ar (some (9,1)) (some [.str []]) 2 false [(0,(.str cC)),(1,(.str ez))]).wp K U (fun lO U =>
 ae K 231 [a0,lO] U (ag (fun iW U =>
 (aL (some (3,1)) none a2 fI).wp K U (fun nB U =>
 (aj aE nB U).wp K U (fun qY U =>
 ae K 123 [a0,qY] U (ag (fun v49 U =>
 (ar (some (9,1)) (some [.str []]) 1 false [(0,(.str gY))]).wp K U (fun v51 U =>
 ae K 231 [a0,v51] U (ag (fun o0 U =>
 (ax .add aS true fI (.int .i64 1)).wp K U (fun qg U =>
 (aL (some (3,1)) none a2 qg).wp K U (fun qZ U =>
 (aj aE qZ U).wp K U (fun o4 U =>
 ae K 123 [a0,o4] U (ag (fun v59 U =>
 j a0 U) (aa R))) (aa R)) (aa R)) (aa R)) (aa R))) (aa R)) (aa R))) (aa R)) (aa R)) (aa R))) (aa R)) (aa R))) (aa R)) (aa R))) (aa R)) (aa R)) (aa R))) (aa R)) (aa R)) (aa R)) (aa R))) (aa R)) (aa R)) (aa R))) (aa R)) (aa R)) (aa R)) (aa R)) (aa R)) (aa R)) (aa R)) (aa R)) (aa R)
def RI:Prop :=
 ae K 206 [a0] U (ag (fun v4 U =>
 ao K (aP v4 false) (aD.val a0) (fun v6 =>
 ao K (aP v4 false) (ax .eql aS true v6 (.int .u8 8)) (fun v7 =>
 (bQ v4 (.bool true) v7).wp K U (fun v8 U =>
 ak R v8 U) (aa R)))) (aa R))
def Jc:Prop :=
 (eS a1).wp K U (fun v4 U =>
 (af (some 0) v4).wp K U (fun v20 U =>
 (aj aE v20 U).wp K U (fun v21 U =>
 (ax .eql aS true v21 (.int .u8 8)).wp K U (fun dL U =>
 aw dL (
 (cw (some false) a2).wp K U (fun v24 U =>
 (ax .sub aS true v24 (.int .i64 1)).wp K U (fun eR U =>
 (ar (some (9,1)) (some [.str []]) 1 false [(0,(.str cP))]).wp K U (fun dW U =>
 ae K 231 [a0,dW] U (ag (fun v28 U =>
 (fG false (some (3,1)) a2 none (some eR)).wp K U (fun fI U =>
 ae K 233 [a0,fI] U (ag (fun fC U =>
 (ar (some (9,1)) (some [.str []]) 2 false [(0,(.str cC)),(1,(.str fO))]).wp K U (fun hU U =>
 ae K 231 [a0,hU] U (ag (fun hX U =>
 (aL (some (3,1)) none a2 eR).wp K U (fun v40 U =>
 (aj aE v40 U).wp K U (fun jv U =>
 ae K 123 [a0,jv] U (ag (fun lO U =>
 ak R (.aH []) U) (aa R))) (aa R)) (aa R)) (aa R))) (aa R)) (aa R))) (aa R)) (aa R))) (aa R)) (aa R)) (aa R)) (
 (af (some 0) v4).wp K U (fun nz U =>
 (aj aE nz U).wp K U (fun nA U =>
 (ax .eql aS true nA (.int .u8 6)).wp K U (fun v46 U =>
 ao K (aP v46 true) (af (some 2) v4) (fun qY =>
 ao K (aP v46 true) (aj aE qY U) (fun v49 =>
 ao K (aP v46 true) (ax .eql aS true v49 (.int .i64 1)) (fun jG =>
 (bQ v46 jG (.bool false)).wp K U (fun v51 U =>
 aw v51 (
 (ar (some (9,1)) (some [.str []]) 1 false [(0,(.str sO))]).wp K U (fun v53 U =>
 ae K 231 [a0,v53] U (ag (fun mJ U =>
 ak R (.aH []) U) (aa R))) (aa R)) (
 (af (some 0) v4).wp K U (fun qg U =>
 (aj aE qg U).wp K U (fun qZ U =>
 (ax .eql aS true qZ (.int .u8 6)).wp K U (fun o4 U =>
 ao K (aP o4 true) (af (some 2) v4) (fun uJ =>
 ao K (aP o4 true) (aj aE uJ U) (fun nK =>
 ao K (aP o4 true) (ax .eql aS true nK (.int .i64 2)) (fun xd =>
 (bQ o4 xd (.bool false)).wp K U (fun pN U =>
 aw pN (
 (ar (some (9,1)) (some [.str []]) 1 false [(0,(.str ow))]).wp K U (fun rY U =>
 ae K 231 [a0,rY] U (ag (fun vr U =>
 ak R (.aH []) U) (aa R))) (aa R)) (
 (aD.vg).wp K U (fun v8 U =>
 (dX (some (.i,9)) v8 (.int .u8 6) (.str ku) U).wp K U (fun _ U =>
 (dX (some (.i,9)) v8 (.int .u8 7) (.str jH) U).wp K U (fun _ U =>
 (af (some 0) v4).wp K U (fun v10 U =>
 (aj aE v10 U).wp K U (fun v11 U =>
 (et (some (.i,9)) (some (.str [])) v8 v11 false U).wp K U (fun v12 U =>
 (ar (some (9,1)) (some [.str []]) 1 false [(0,v12)]).wp K U (fun ck U =>
 ae K 231 [a0,ck] U (ag (fun ct U =>
 (af (some 2) v4).wp K U (fun cO U =>
 (aj aE cO U).wp K U (fun dv U =>
 ae K 234 [a0,dv] U (ag (fun cu U =>
 ak R (.aH []) U) (aa R))) (aa R)) (aa R)) (aa R))) (aa R)) (aa R)) (aa R)) (aa R)) (aa R)) (aa R)) (aa R))) (aa R))))) (aa R)) (aa R)) (aa R))) (aa R))))) (aa R)) (aa R)) (aa R))) (aa R)) (aa R)) (aa R)) (aa R)
def Jd:Prop :=
 (eS a1).wp K U (fun v4 U =>
 (af (some 0) v4).wp K U (fun v10 U =>
 (aj aE v10 U).wp K U (fun v11 U =>
 (ax .eql aS true v11 (.int .u8 19)).wp K U (fun v12 U =>
 aw v12 (
 (ar (some (9,1)) (some [.str []]) 1 false [(0,(.str pJ))]).wp K U (fun ct U =>
 ae K 231 [a0,ct] U (ag (fun bZ U =>
 (aL (some (3,1)) none a2 (.int .i64 0)).wp K U (fun cu U =>
 (aj aE cu U).wp K U (fun da U =>
 ae K 235 [a0,da,(.int .i64 4)] U (ag (fun v20 U =>
 ak R (.aH []) U) (aa R))) (aa R)) (aa R)) (aa R))) (aa R)) (
 (af (some 0) v4).wp K U (fun dL U =>
 (aj aE dL U).wp K U (fun dZ U =>
 ae K 236 [a0,dZ] U (ag (fun v24 U =>
 jR 5 (fun v0 v2 nC v6 v7 U =>
 (aL (some (3,1)) none v2 (.int .i64 0)).wp K U (fun fI U =>
 (aj aE fI U).wp K U (fun fC U =>
 ae K 235 [v0,fC,v7] U (ag (fun hU U =>
 (aW v0).wp K U (fun v37 U =>
 (af (some 2) v37).wp K U (fun gH U =>
 (aj aE gH U).wp K U (fun lN U =>
 (et (some (.i,185)) (some .jE) lN v6 false U).wp K U (fun jv U =>
 (uF (some (.s,5)) jv).wp K U (fun lO U =>
 eW 5 [v0,v2,nC,v6,lO] U fun lp iy jC NM pv AP U =>
 (sJ AP U).wp K U (fun iW U =>
 (aT iW 0).wp K U (fun nz U =>
 aw nz (
 (mX AP U).wp K U (fun nA U =>
 (aT nA 0).wp K U (fun v46 U =>
 (aT nA 1).wp K U (fun nB U =>
 (af (some 0) NM).wp K U (fun v49 U =>
 (aj aE v49 U).wp K U (fun jG U =>
 (ax .eql aS false nB jG).wp K U (fun v51 U =>
 aw v51 (
 (ar (some (9,1)) (some [.str []]) 1 false [(0,v46)]).wp K U (fun mJ U =>
 ae K 231 [iy,mJ] U (ag (fun nD U =>
 lp iy jC NM pv AP U) (aa R))) (aa R)) (
 lp iy jC NM pv AP U)) (aa R)) (aa R)) (aa R)) (aa R)) (aa R)) (aa R)) (
 (ax .eql aS true pv (.int .i64 8)).wp K U (fun qZ U =>
 aw qZ (
 (af (some 2) NM).wp K U (fun v59 U =>
 (aj aE v59 U).wp K U (fun uJ U =>
 ae K 234 [iy,uJ] U (ag (fun nK U =>
 ak R (.aH []) U) (aa R))) (aa R)) (aa R)) (
 (aL (some (3,1)) none jC (.int .i64 1)).wp K U (fun uK U =>
 (aj aE uK U).wp K U (fun rY U =>
 (ax .add aS true pv (.int .i64 1)).wp K U (fun tG U =>
 ae K 235 [iy,rY,tG] U (ag (fun xe U =>
 ak R (.aH []) U) (aa R))) (aa R)) (aa R)) (aa R))) (aa R))) (aa R)) (aa R)) (aa R)) (aa R)) (aa R)) (aa R)) (aa R)) (aa R))) (aa R)) (aa R)) fun j =>
 (ax .eql aS true v24 (.int .i64 5)).wp K U (fun dW U =>
 aw dW (
 (ax .add aS true v24 (.int .i64 1)).wp K U (fun ej U =>
 j a0 a2 v4 v24 ej U) (aa R)) (
 j a0 a2 v4 v24 v24 U)) (aa R)) (aa R))) (aa R)) (aa R))) (aa R)) (aa R)) (aa R)) (aa R)
def s0:Prop :=
 (eS a1).wp K U (fun v4 U =>
 (af (some 0) v4).wp K U (fun v8 U =>
 (aj aE v8 U).wp K U (fun v9 U =>
 (ax .eql aS true v9 (.int .u8 9)).wp K U (fun v11 U =>
 aw v11 (
 (aL (some (3,1)) none a2 (.int .i64 0)).wp K U (fun ct U =>
 (aj aE ct U).wp K U (fun bZ U =>
 ae K 235 [a0,bZ,(.int .i64 1)] U (ag (fun cO U =>
 (fG false (some (3,1)) a2 (some (.int .i64 1)) none).wp K U (fun cu U =>
 (cw (some false) cu).wp K U (fun da U =>
 eW 4 [a0,cu,da,(.int .i64 0)] U fun lp v0 Xu Xv v20 U =>
 (ax .lss aS false v20 Xv).wp K U (fun v21 U =>
 aw v21 (
 (aL (some (3,1)) none Xu v20).wp K U (fun dL U =>
 (aj aE dL U).wp K U (fun dZ U =>
 (ar (some (3,1)) (some [.int .i64 0]) 1 false [(0,dZ)]).wp K U (fun fR U =>
 (ar (some (9,1)) (some [.str []]) 1 false [(0,(.str cH))]).wp K U (fun dW U =>
 ae K 237 [v0,fR,dW] U (ag (fun v28 U =>
 (ax .add aS true v20 (.int .i64 1)).wp K U (fun ej U =>
 lp v0 Xu Xv ej U) (aa R)) (aa R))) (aa R)) (aa R)) (aa R)) (aa R)) (
 ak R (.aH []) U)) (aa R)) (aa R)) (aa R)) (aa R))) (aa R)) (aa R)) (
 (ax .eql aS true v9 (.int .u8 10)).wp K U (fun v31 U =>
 aw v31 (
 (ar (some (9,1)) (some [.str []]) 3 false [(0,(.str oe)),(1,(.str oy)),(2,(.str eU))]).wp K U (fun ic U =>
 ae K 237 [a0,a2,ic] U (ag (fun hU U =>
 ak R (.aH []) U) (aa R))) (aa R)) (
 (ax .eql aS true v9 (.int .u8 11)).wp K U (fun v37 U =>
 aw v37 (
 (ar (some (9,1)) (some [.str []]) 2 false [(0,(.str fW)),(1,(.str sE))]).wp K U (fun v40 U =>
 ae K 237 [a0,a2,v40] U (ag (fun jv U =>
 ak R (.aH []) U) (aa R))) (aa R)) (
 (ax .eql aS true v9 (.int .u8 15)).wp K U (fun iW U =>
 aw iW (
 (ar (some (9,1)) (some [.str []]) 2 false [(0,(.str gq)),(1,(.str eU))]).wp K U (fun v46 U =>
 ae K 237 [a0,a2,v46] U (ag (fun nB U =>
 ak R (.aH []) U) (aa R))) (aa R)) (
 (ax .eql aS true v9 (.int .u8 12)).wp K U (fun v49 U =>
 aw v49 (
 (ar (some (9,1)) (some [.str []]) 1 false [(0,(.str kQ))]).wp K U (fun v51 U =>
 ae K 231 [a0,v51] U (ag (fun o0 U =>
 (af (some 1) v4).wp K U (fun mJ U =>
 (aj aE mJ U).wp K U (fun nD U =>
 ae K 232 [a0,nD] U (ag (fun qg U =>
 (ar (some (9,1)) (some [.str []]) 1 false [(0,(.str ez))]).wp K U (fun o4 U =>
 ae K 231 [a0,o4] U (ag (fun v59 U =>
 (af (some 2) v4).wp K U (fun nK U =>
 (aj aE nK U).wp K U (fun xd U =>
 ae K 234 [a0,xd] U (ag (fun pN U =>
 (ar (some (9,1)) (some [.str []]) 1 false [(0,(.str bV))]).wp K U (fun rY U =>
 ae K 231 [a0,rY] U (ag (fun vr U =>
 (af (some 3) v4).wp K U (fun xe U =>
 (aj aE xe U).wp K U (fun vu U =>
 ae K 234 [a0,vu] U (ag (fun v70 U =>
 (ar (some (9,1)) (some [.str []]) 1 false [(0,(.str kK))]).wp K U (fun BK U =>
 ae K 237 [a0,a2,BK] U (ag (fun uL U =>
 ak R (.aH []) U) (aa R))) (aa R)) (aa R))) (aa R)) (aa R)) (aa R))) (aa R)) (aa R))) (aa R)) (aa R)) (aa R))) (aa R)) (aa R))) (aa R)) (aa R)) (aa R))) (aa R)) (
 (ax .eql aS true v9 (.int .u8 13)).wp K U (fun v76 U =>
 aw v76 (
 (ar (some (9,1)) (some [.str []]) 1 false [(0,(.str ij))]).wp K U (fun Gj U =>
 ae K 231 [a0,Gj] U (ag (fun LI U =>
 (af (some 1) v4).wp K U (fun Xy U =>
 (aj aE Xy U).wp K U (fun LJ U =>
 ae K 232 [a0,LJ] U (ag (fun v83 U =>
 (ar (some (9,1)) (some [.str []]) 2 false [(0,(.str kK)),(1,(.str eU))]).wp K U (fun v86 U =>
 ae K 237 [a0,a2,v86] U (ag (fun v87 U =>
 ak R (.aH []) U) (aa R))) (aa R)) (aa R))) (aa R)) (aa R)) (aa R))) (aa R)) (
 (ax .eql aS true v9 (.int .u8 16)).wp K U (fun v89 U =>
 aw v89 (
 (af (some 1) v4).wp K U (fun v91 U =>
 (aj aE v91 U).wp K U (fun v92 U =>
 ae K 232 [a0,v92] U (ag (fun v93 U =>
 (ar (some (9,1)) (some [.str []]) 1 false [(0,(.str bV))]).wp K U (fun Xz U =>
 ae K 237 [a0,a2,Xz] U (ag (fun v97 U =>
 ak R (.aH []) U) (aa R))) (aa R)) (aa R))) (aa R)) (aa R)) (
 (ax .eql aS true v9 (.int .u8 14)).wp K U (fun v99 U =>
 aw v99 (
 (ar (some (9,1)) (some [.str []]) 1 false [(0,(.str hZ))]).wp K U (fun Vy U =>
 ae K 231 [a0,Vy] U (ag (fun ab1 U =>
 (af (some 1) v4).wp K U (fun Vz U =>
 (aj aE Vz U).wp K U (fun v105 U =>
 ae K 232 [a0,v105] U (ag (fun ab2 U =>
 (ar (some (9,1)) (some [.str []]) 1 false [(0,(.str bV))]).wp K U (fun aga U =>
 ae K 231 [a0,aga] U (ag (fun v109 U =>
 (af (some 2) v4).wp K U (fun VA U =>
 (aj aE VA U).wp K U (fun VB U =>
 ae K 234 [a0,VB] U (ag (fun agZ U =>
 (ar (some (9,1)) (some [.str []]) 1 false [(0,(.str kK))]).wp K U (fun VC U =>
 ae K 237 [a0,a2,VC] U (ag (fun v117 U =>
 ak R (.aH []) U) (aa R))) (aa R)) (aa R))) (aa R)) (aa R)) (aa R))) (aa R)) (aa R))) (aa R)) (aa R)) (aa R))) (aa R)) (
 ak R (.aH []) U)) (aa R))) (aa R))) (aa R))) (aa R))) (aa R))) (aa R))) (aa R))) (aa R)) (aa R)) (aa R)) (aa R)
def RL:Prop :=
 (ax .geq aS true a0 (.int .u8 9)).wp K U (fun v4 U =>
 ao K (aP v4 true) (aD.val a0) (fun v6 =>
 ao K (aP v4 true) (ax .leq aS true v6 (.int .u8 34)) (fun v7 =>
 (bQ v4 v7 (.bool false)).wp K U (fun v8 U =>
 ak R v8 U) (aa R)))) (aa R)
def uH:Prop :=
 (eS a1).wp K U (fun v4 U =>
 (af (some 0) v4).wp K U (fun v6 U =>
 (aj aE v6 U).wp K U (fun v7 U =>
 (ax .eql aS true v7 (.int .u8 26)).wp K U (fun dv U =>
 aw dv (
 (af (some 2) v4).wp K U (fun da U =>
 (aj aE da U).wp K U (fun v20 U =>
 ae K 234 [a0,v20] U (ag (fun v21 U =>
 ak R (.aH []) U) (aa R))) (aa R)) (aa R)) (
 (ax .eql aS true v7 (.int .u8 31)).wp K U (fun dZ U =>
 aw dZ (
 (ar (some (9,1)) (some [.str []]) 1 false [(0,(.str jI))]).wp K U (fun eR U =>
 ae K 231 [a0,eR] U (ag (fun fR U =>
 (af (some 1) v4).wp K U (fun v28 U =>
 (aj aE v28 U).wp K U (fun ej U =>
 ae K 232 [a0,ej] U (ag (fun v30 U =>
 ak R (.aH []) U) (aa R))) (aa R)) (aa R)) (aa R))) (aa R)) (
 (ax .eql aS true v7 (.int .u8 32)).wp K U (fun fI U =>
 aw fI (
 (ar (some (9,1)) (some [.str []]) 1 false [(0,(.str lM))]).wp K U (fun ic U =>
 ae K 231 [a0,ic] U (ag (fun hU U =>
 (af (some 1) v4).wp K U (fun v37 U =>
 (aj aE v37 U).wp K U (fun gH U =>
 ae K 232 [a0,gH] U (ag (fun lN U =>
 ak R (.aH []) U) (aa R))) (aa R)) (aa R)) (aa R))) (aa R)) (
 (ax .eql aS true v7 (.int .u8 33)).wp K U (fun jv U =>
 aw jv (
 (af (some 1) v4).wp K U (fun iW U =>
 (aj aE iW U).wp K U (fun nz U =>
 ae K 232 [a0,nz] U (ag (fun nA U =>
 ak R (.aH []) U) (aa R))) (aa R)) (aa R)) (
 (ax .eql aS true v7 (.int .u8 34)).wp K U (fun nB U =>
 aw nB (
 (af (some 1) v4).wp K U (fun v49 U =>
 (aj aE v49 U).wp K U (fun jG U =>
 ae K 232 [a0,jG] U (ag (fun v51 U =>
 (ar (some (9,1)) (some [.str []]) 1 false [(0,(.str cP))]).wp K U (fun v53 U =>
 ae K 231 [a0,v53] U (ag (fun mJ U =>
 ae K 233 [a0,a2] U (ag (fun qZ U =>
 (ar (some (9,1)) (some [.str []]) 1 false [(0,(.str cC))]).wp K U (fun v59 U =>
 ae K 231 [a0,v59] U (ag (fun uJ U =>
 ak R (.aH []) U) (aa R))) (aa R)) (aa R))) (aa R))) (aa R)) (aa R))) (aa R)) (aa R)) (
 (aD.vg).wp K U (fun v9 U =>
 (dX (some (.i,9)) v9 (.int .u8 27) (.str dB) U).wp K U (fun _ U =>
 (dX (some (.i,9)) v9 (.int .u8 28) (.str dE) U).wp K U (fun _ U =>
 (dX (some (.i,9)) v9 (.int .u8 29) (.str fB) U).wp K U (fun _ U =>
 (dX (some (.i,9)) v9 (.int .u8 30) (.str gw) U).wp K U (fun _ U =>
 (af (some 0) v4).wp K U (fun v11 U =>
 (aj aE v11 U).wp K U (fun v12 U =>
 (et (some (.i,9)) (some (.str [])) v9 v12 false U).wp K U (fun ck U =>
 (ar (some (9,1)) (some [.str []]) 1 false [(0,ck)]).wp K U (fun ct U =>
 ae K 231 [a0,ct] U (ag (fun bZ U =>
 ak R (.aH []) U) (aa R))) (aa R)) (aa R)) (aa R)) (aa R)) (aa R)) (aa R)) (aa R)) (aa R)) (aa R))) (aa R))) (aa R))) (aa R))) (aa R))) (aa R)) (aa R)) (aa R)) (aa R)
def Ab:Prop :=
 (eS a1).wp K U (fun v4 U =>
 (af (some 0) v4).wp K U (fun v7 U =>
 (aj aE v7 U).wp K U (fun v8 U =>
 (ax .eql aS true v8 (.int .u8 5)).wp K U (fun v10 U =>
 aw v10 (
 (af (some 1) v4).wp K U (fun v12 U =>
 (aj aE v12 U).wp K U (fun ck U =>
 ae K 232 [a0,ck] U (ag (fun ct U =>
 (ar (some (9,1)) (some [.str []]) 1 false [(0,(.str ez))]).wp K U (fun cO U =>
 ae K 231 [a0,cO] U (ag (fun dv U =>
 (aL (some (3,1)) none a2 (.int .i64 0)).wp K U (fun v20 U =>
 (aj aE v20 U).wp K U (fun v21 U =>
 ae K 123 [a0,v21] U (ag (fun dL U =>
 ak R (.aH []) U) (aa R))) (aa R)) (aa R)) (aa R))) (aa R)) (aa R))) (aa R)) (aa R)) (
 (ax .eql aS true v8 (.int .u8 37)).wp K U (fun v24 U =>
 aw v24 (
 (af (some 1) v4).wp K U (fun fR U =>
 (aj aE fR U).wp K U (fun dW U =>
 ae K 232 [a0,dW] U (ag (fun v28 U =>
 ak R (.aH []) U) (aa R))) (aa R)) (aa R)) (
 (ax .eql aS true v8 (.int .u8 35)).wp K U (fun v30 U =>
 aw v30 (
 (cw (some false) a2).wp K U (fun fI U =>
 (ax .sub aS true fI (.int .i64 1)).wp K U (fun fC U =>
 (ar (some (9,1)) (some [.str []]) 2 false [(0,(.str rR)),(1,(.str cP))]).wp K U (fun hU U =>
 ae K 231 [a0,hU] U (ag (fun hX U =>
 (fG false (some (3,1)) a2 none (some fC)).wp K U (fun v40 U =>
 ae K 233 [a0,v40] U (ag (fun jv U =>
 (fG false (some (3,1)) a2 (some fC) none).wp K U (fun nA U =>
 (ar (some (9,1)) (some [.str []]) 1 false [(0,(.str cC))]).wp K U (fun v46 U =>
 ae K 237 [a0,nA,v46] U (ag (fun nB U =>
 ak R (.aH []) U) (aa R))) (aa R)) (aa R)) (aa R))) (aa R)) (aa R))) (aa R)) (aa R)) (aa R)) (
 (ax .eql aS true v8 (.int .u8 36)).wp K U (fun v49 U =>
 aw v49 (
 (ar (some (9,1)) (some [.str []]) 1 false [(0,(.str mO))]).wp K U (fun v51 U =>
 ae K 231 [a0,v51] U (ag (fun o0 U =>
 (fG false (some (3,1)) a2 none (some (.int .i64 1))).wp K U (fun nD U =>
 (ar (some (9,1)) (some [.str []]) 1 false [(0,(.str yq))]).wp K U (fun qg U =>
 ae K 237 [a0,nD,qg] U (ag (fun qZ U =>
 (ar (some (9,1)) (some [.str []]) 2 false [(0,(.str cH)),(1,(.str yr))]).wp K U (fun v59 U =>
 ae K 231 [a0,v59] U (ag (fun uJ U =>
 (aL (some (3,1)) none a2 (.int .i64 1)).wp K U (fun pN U =>
 (aj aE pN U).wp K U (fun uK U =>
 ae K 123 [a0,uK] U (ag (fun rY U =>
 (fG false (some (3,1)) a2 (some (.int .i64 2)) none).wp K U (fun xe U =>
 (ar (some (9,1)) (some [.str []]) 1 false [(0,(.str vw))]).wp K U (fun vu U =>
 ae K 237 [a0,xe,vu] U (ag (fun v70 U =>
 (ar (some (9,1)) (some [.str []]) 1 false [(0,(.str rQ))]).wp K U (fun v72 U =>
 ae K 231 [a0,v72] U (ag (fun BK U =>
 ak R (.aH []) U) (aa R))) (aa R)) (aa R))) (aa R)) (aa R)) (aa R))) (aa R)) (aa R)) (aa R))) (aa R)) (aa R))) (aa R)) (aa R)) (aa R))) (aa R)) (
 ak R (.aH []) U)) (aa R))) (aa R))) (aa R))) (aa R)) (aa R)) (aa R)) (aa R)
def RN:Prop :=
 (eS a0).wp K U (fun v2 U =>
 (eS a1).wp K U (fun v3 U =>
 (af (some 0) v2).wp K U (fun v5 U =>
 (aj aE v5 U).wp K U (fun v6 U =>
 (ax .neq aS true v6 (.int .u8 4)).wp K U (fun v7 U =>
 ao K (aP v7 true) (af (some 0) v3) (fun v9 =>
 ao K (aP v7 true) (aj aE v9 U) (fun v10 =>
 ao K (aP v7 true) (ax .neq aS true v10 (.int .u8 4)) (fun v11 =>
 (bQ v7 v11 (.bool false)).wp K U (fun v12 U =>
 aw v12 (
 ak R (.bool true) U) (
 (af (some 1) v2).wp K U (fun ck U =>
 (aj aE ck U).wp K U (fun ct U =>
 (ax .eql aS true ct (.str ez)).wp K U (fun bZ U =>
 ao K (aP bZ true) (af (some 1) v3) (fun dv =>
 ao K (aP bZ true) (aj aE dv U) (fun cu =>
 ao K (aP bZ true) (ax .eql aS true cu (.str gY)) (fun da =>
 (bQ bZ da (.bool false)).wp K U (fun v20 U =>
 ak R v20 U) (aa R))))) (aa R)) (aa R)) (aa R))) (aa R))))) (aa R)) (aa R)) (aa R)) (aa R)) (aa R)
def RP:Prop :=
 ae K 190 [a0] U (ag (fun v6 U =>
 (aW a0).wp K U (fun v9 U =>
 (af (some 1) v9).wp K U (fun v10 U =>
 (aj aE v10 U).wp K U (fun v11 U =>
 (ar (some (5,1)) (some [.int .u8 0]) 1 false [(0,a1)]).wp K U (fun ck U =>
 (eH (some (5,1)) false v11 ck U).wp K U (fun ct U =>
 (aW a0).wp K U (fun bZ U =>
 (af (some 1) bZ).wp K U (fun cO U =>
 (aF aE cO ct U).wp K U (fun _ U =>
 ak R .dr U) (aa R)) (aa R)) (aa R)) (aa R)) (aa R)) (aa R)) (aa R)) (aa R)) (aa R))
def RR:Prop :=
 (ax .eql aS true a0 (.int .u8 6)).wp K U (fun v4 U =>
 ao K (aP v4 false) (aD.val a0) (fun v6 =>
 ao K (aP v4 false) (ax .eql aS true v6 (.int .u8 7)) (fun v7 =>
 (bQ v4 (.bool true) v7).wp K U (fun v8 U =>
 ak R v8 U) (aa R)))) (aa R)
def RT:Prop :=
 ae K 185 [a0] U (ag (fun v4 U =>
 ao K (aP v4 false) (aD.val a0) (fun v6 =>
 ao K (aP v4 false) (ax .eql aS true v6 (.int .u8 35)) (fun v7 =>
 (bQ v4 (.bool true) v7).wp K U (fun v8 U =>
 ao K (aP v8 false) (aD.val a0) (fun v10 =>
 ao K (aP v8 false) (ax .eql aS true v10 (.int .u8 36)) (fun v11 =>
 (bQ v8 (.bool true) v11).wp K U (fun v12 U =>
 ak R v12 U) (aa R)))) (aa R)))) (aa R))
def RV:Prop :=
 ae K 33 [a0] U (ag (fun v8 U =>
 (aT v8 0).wp K U (fun v9 U =>
 (aT v8 1).wp K U (fun v10 U =>
 (aT v8 2).wp K U (fun v11 U =>
 (ax .eql aS true v11 (.int .i64 0)).wp K U (fun ck U =>
 ao K (aP ck true) (aD.val v9) (fun bZ =>
 ao K (aP ck true) (cw (some false) bZ) (fun cO =>
 ao K (aP ck true) (ax .eql aS true cO (.int .i64 1)) (fun dv =>
 (bQ ck dv (.bool false)).wp K U (fun cu U =>
 ao K (aP cu true) (aD.val v9) (fun v20 =>
 ao K (aP cu true) (aL (some (51,3)) none v20 (.int .i64 0)) (fun v21 =>
 ao K (aP cu true) (af (some 0) v21) (fun dL =>
 ao K (aP cu true) (aj aE dL U) (fun dZ =>
 ao K (aP cu true) (ax .eql aS true dZ (.int .u8 1)) (fun v24 =>
 (bQ cu v24 (.bool false)).wp K U (fun eR U =>
 ao K (aP eR true) (aD.val v9) (fun dW =>
 ao K (aP eR true) (aL (some (51,3)) none dW (.int .i64 0)) (fun v28 =>
 ao K (aP eR true) (af (some 1) v28) (fun ej =>
 ao K (aP eR true) (aj aE ej U) (fun v30 =>
 ao K (aP eR true) (aD.val a0) (fun v31 =>
 ao K (aP eR true) (ax .eql aS false v30 v31) (fun fI =>
 (bQ eR fI (.bool false)).wp K U (fun fC U =>
 ak R fC U) (aa R)))))))) (aa R))))))) (aa R))))) (aa R)) (aa R)) (aa R)) (aa R)) (aa R))
def RX:Prop :=
 (cw (some false) a1).wp K U (fun v12 U =>
 eW 5 [a0,a1,a1,v12,(.int .i64 0)] U fun lp v0 v1 v11 Xp ck U =>
 (ax .lss aS false ck Xp).wp K U (fun ct U =>
 aw ct (
 (aL (some (200,3)) none v11 ck).wp K U (fun cO U =>
 (aj (some (true,3)) cO U).wp K U (fun dv U =>
 (aD.cE [.dV,.int .i64 0,.int .i64 0]).wp K U (fun v6 U =>
 (aF (some (true,3)) v6 dv U).wp K U (fun _ U =>
 (ax .add aS true ck (.int .i64 1)).wp K U (fun v20 U =>
 (fG false (some (200,3)) v1 (some v20) none).wp K U (fun v21 U =>
 (cw (some false) v21).wp K U (fun dL U =>
 eW 10 [v0,v1,v6,(.int .i64 0),v11,Xp,ck,v21,dL,(.int .i64 0)] U fun Uu iy od pv v7 DG Xq rM Xw Xx dZ U =>
 (ax .lss aS false dZ Xx).wp K U (fun v24 U =>
 aw v24 (
 (aL (some (200,3)) none Xw dZ).wp K U (fun eR U =>
 (aj (some (true,3)) eR U).wp K U (fun fR U =>
 (aD.cE [.dV,.int .i64 0,.int .i64 0]).wp K U (fun v9 U =>
 (aF (some (true,3)) v9 fR U).wp K U (fun _ U =>
 (af (some 1) v9).wp K U (fun v28 U =>
 (aj aE v28 U).wp K U (fun ej U =>
 (ax .add aS false v7 ej).wp K U (fun v30 U =>
 (ax .add aS true dZ (.int .i64 1)).wp K U (fun v31 U =>
 Uu iy od pv v30 DG Xq rM Xw Xx v31 U) (aa R)) (aa R)) (aa R)) (aa R)) (aa R)) (aa R)) (aa R)) (aa R)) (
 eW 8 [iy,od,pv,v7,(.int .i64 0),DG,Xq,rM] U fun afN NH acg NP lD v10 Xn Xr DH U =>
 jR 9 (fun abZ ach acj VD NI Xo Xs Xt o0 U =>
 aw o0 (
 (ax .add aS true NI (.int .i64 1)).wp K U (fun mJ U =>
 afN abZ ach acj VD mJ Xo Xs Xt U) (aa R)) (
 (af (some 1) acj).wp K U (fun qg U =>
 (aj aE qg U).wp K U (fun qZ U =>
 (ax .lss aS false NI qZ).wp K U (fun o4 U =>
 aw o4 (
 ak R (.bool false) U) (
 (fG false (some (5,1)) abZ (some NI) none).wp K U (fun nK U =>
 (ax .add aS true Xt (.int .i64 1)).wp K U (fun xd U =>
 lp nK ach Xo Xs xd U) (aa R)) (aa R))) (aa R)) (aa R)) (aa R))) fun j =>
 (fun aq:St =>
 aB K (cw (some false) NH) (fun ic =>
 aB K (ax .sub aS false ic lD) (fun hX =>
 aB K (ax .lss aS false v10 hX) (fun v37 =>
 ao K (aP v37 true) (aD.val v10) (fun lN =>
 ao K (aP v37 true) (af (some 2) NP) (fun v40 =>
 ao K (aP v37 true) (aj aE v40 aq) (fun jv =>
 ao K (aP v37 true) (ax .lss aS false lN jv) (fun lO =>
 aB K (bQ v37 lO (.bool false)) (fun iW =>
 ao K (aP iW true) (af (some 0) NP) (fun nA =>
 ao K (aP iW true) (aj aE nA aq) (fun v46 =>
 ao K (aP iW true) (aD.val NH) (fun nB =>
 ao K (aP iW true) (aD.val v10) (fun qY =>
 ao K (aP iW true) (aL (some (5,1)) none nB qY) (fun v49 =>
 ao K (aP iW true) (aj aE v49 aq) (fun jG =>
 aw (aP iW true) (
 (iN K.P v46 [jG]).wp K U (fun v51 U=>cY ((eL v49++[])++((eL nA++[])++((eL v40++[])++[]))) aq U /\
 aB K (bQ iW v51 (.bool false)) (fun NN =>
 j NH acg NP lD v10 Xn Xr DH NN U)) (aa R)) (
 aB K (bQ iW (.aH []) (.bool false)) (fun aek =>
 j NH acg NP lD v10 Xn Xr DH aek U))))))))))))))))) U)) (aa R)) (aa R)) (aa R)) (aa R)) (aa R)) (aa R)) (aa R)) (aa R)) (
 (cw (some false) v0).wp K U (fun uK U =>
 (ax .eql aS true uK (.int .i64 0)).wp K U (fun rY U =>
 ak R rY U) (aa R)) (aa R))) (aa R)) (aa R)
def Je:Prop :=
 (cw (some false) a0).wp K U (fun v7 U =>
 eW 4 [a0,a1,v7,(.int .i64 0)] U fun lp v0 v1 lD v8 U =>
 (ax .lss aS false v8 lD).wp K U (fun v9 U =>
 aw v9 (
 (aL (some (3,1)) none v0 v8).wp K U (fun ct U =>
 (aj aE ct U).wp K U (fun bZ U =>
 (iN K.P v1 [bZ]).wp K U (fun cO U =>
 aw cO (
 ak R v8 U) (
 (ax .add aS true v8 (.int .i64 1)).wp K U (fun cu U =>
 lp v0 v1 lD cu U) (aa R))) (aa R)) (aa R)) (aa R)) (
 ak R (.int .i64 (-1)) U)) (aa R)) (aa R)
def abN:Prop :=
 ae K 243 [a0,a1] U (ag (fun v10 U =>
 (ax .geq aS true v10 (.int .i64 0)).wp K U (fun v12 U =>
 aw v12 (
 (fun aq:St =>
 aB K (fG true none a0 none (some v10)) (fun bZ =>
 aB K (cw (some true) a1) (fun da =>
 aB K (ax .add aS false v10 da) (fun v20 =>
 aB K (fG true none a0 (some v20) none) (fun v21 =>
 ak R (.aH [bZ,v21,(.bool true)]) U))))) U) (
 ak R (.aH [a0,(.str w_),(.bool false)]) U)) (aa R)) (aa R))
def abO:Prop :=
 ae K 246 [a0,a1] U (ag (fun v7 U =>
 (ax .geq aS true v7 (.int .i64 0)).wp K U (fun v8 U =>
 ak R v8 U) (aa R)) (aa R))
def R0:Prop :=
 (ax .eql aS true a0 (.int .u8 32)).wp K U (fun v5 U =>
 ao K (aP v5 false) (aD.val a0) (fun v7 =>
 ao K (aP v5 false) (ax .eql aS true v7 (.int .u8 10)) (fun v8 =>
 (bQ v5 (.bool true) v8).wp K U (fun v9 U =>
 aw v9 (
 ak R (.int .i64 1) U) (
 (ax .lss aS true a0 (.int .u8 32)).wp K U (fun v12 U =>
 ao K (aP v12 false) (aD.val a0) (fun ct =>
 ao K (aP v12 false) (ax .gtr aS true ct (.int .u8 126)) (fun bZ =>
 (bQ v12 (.bool true) bZ).wp K U (fun cO U =>
 aw cO (
 ak R (.int .i64 0) U) (
 (ax .geq aS true a0 (.int .u8 48)).wp K U (fun da U =>
 ao K (aP da true) (aD.val a0) (fun v21 =>
 ao K (aP da true) (ax .leq aS true v21 (.int .u8 57)) (fun dL =>
 (bQ da dL (.bool false)).wp K U (fun dZ U =>
 aw dZ (
 ak R (.int .i64 2) U) (
 (ax .geq aS true a0 (.int .u8 97)).wp K U (fun fR U =>
 ao K (aP fR true) (aD.val a0) (fun v28 =>
 ao K (aP fR true) (ax .leq aS true v28 (.int .u8 122)) (fun ej =>
 (bQ fR ej (.bool false)).wp K U (fun v30 U =>
 aw v30 (
 ak R (.int .i64 3) U) (
 (ax .geq aS true a0 (.int .u8 65)).wp K U (fun fC U =>
 ao K (aP fC true) (aD.val a0) (fun hU =>
 ao K (aP fC true) (ax .leq aS true hU (.int .u8 90)) (fun hX =>
 (bQ fC hX (.bool false)).wp K U (fun v37 U =>
 aw v37 (
 ak R (.int .i64 4) U) (
 ak R (.int .i64 5) U)) (aa R)))) (aa R))) (aa R)))) (aa R))) (aa R)))) (aa R))) (aa R)))) (aa R))) (aa R)))) (aa R)
def R2:Prop :=
 (ax .eql aS true a1 (.int .i64 9)).wp K U (fun v12 U =>
 aw v12 (
 ae K 252 [a0] U (ag (fun ct U =>
 ak R ct U) (aa R))) (
 (ax .eql aS true a1 (.int .i64 4)).wp K U (fun cO U =>
 aw cO (
 ae K 99 [a0,(.int .u8 19)] U (ag (fun cu U =>
 ae K 100 [a0,(.str pJ)] U (ag (fun v20 U =>
 aw v20 (
 ae K 219 [a0,(.int .i64 4)] U (ag (fun dZ U =>
 (ar (some (87,1)) (some [.aY]) 1 false [(0,dZ)]).wp K U (fun v24 U =>
 ae K 103 [cu,v24] U (ag (fun eR U =>
 ak R eR U) (aa R))) (aa R)) (aa R))) (
 (ax .add aS true a1 (.int .i64 1)).wp K U (fun v28 U =>
 ae K 219 [a0,v28] U (ag (fun ej U =>
 ak R ej U) (aa R))) (aa R))) (aa R))) (aa R))) (
 (ax .add aS true a1 (.int .i64 1)).wp K U (fun fI U =>
 ae K 219 [a0,fI] U (ag (fun fC U =>
 eW 3 [a0,a1,fC] U fun lp v0 v1 v6 U =>
 (fun aq:St =>
 aB K (aW v0) (fun hX =>
 aB K (af (some 3) hX) (fun v37 =>
 aB K (aj aE v37 aq) (fun gH =>
 aB K (et (some (.i,185)) (some .jE) gH v1 false aq) (fun v40 =>
 ae K 253 [v0] U (ag (fun lO U=>cY ((eL gH++(eL v1++[]))++((eL v37++[])++[])) aq U /\
 (∀ b ∈ eL v40++(eL lO++[]),b ∈ (eL gH++(eL v1++[]))++((eL v37++[])++[])) /\
 aB K (et (some (.s,5)) (some (.int .u8 0)) v40 lO true aq) (fun iW =>
 aB K (aT iW 0) (fun nz =>
 aB K (aT iW 1) (fun nA =>
 (kr .not nA).wp K U (fun nB U =>
 aw nB (
 ak R v6 U) (
 ae K 99 [v0,nz] U (ag (fun v51 U =>
 (aW v0).wp K U (fun v53 U =>
 (af (some 1) v53).wp K U (fun mJ U =>
 (aj aE mJ U).wp K U (fun nD U =>
 (ax .add aS true nD (.int .i64 1)).wp K U (fun qg U =>
 (aW v0).wp K U (fun qZ U =>
 (af (some 1) qZ).wp K U (fun o4 U =>
 (aF aE o4 qg U).wp K U (fun _ U =>
 (ax .eql aS true v1 (.int .i64 8)).wp K U (fun uJ U =>
 aw uJ (
 ae K 168 [v0] U (ag (fun pN U =>
 (aW v51).wp K U (fun uK U =>
 (af (some 0) uK).wp K U (fun rY U =>
 (af (some 2) rY).wp K U (fun vr U =>
 (aF aE vr pN U).wp K U (fun _ U =>
 (ar (some (87,1)) (some [.aY]) 1 false [(0,v6)]).wp K U (fun vu U =>
 ae K 103 [v51,vu] U (ag (fun v70 U =>
 lp v0 v1 v70 U) (aa R))) (aa R)) (aa R)) (aa R)) (aa R)) (aa R)) (aa R))) (
 (ax .add aS true v1 (.int .i64 1)).wp K U (fun v75 U =>
 ae K 219 [v0,v75] U (ag (fun v76 U =>
 (ar (some (87,1)) (some [.aY]) 2 false [(0,v6),(1,v76)]).wp K U (fun BL U =>
 ae K 103 [v51,BL] U (ag (fun Gj U =>
 (ax .eql aS true v1 (.int .i64 5)).wp K U (fun v80 U =>
 aw v80 (
 ak R Gj U) (
 lp v0 v1 Gj U)) (aa R)) (aa R))) (aa R)) (aa R))) (aa R))) (aa R)) (aa R)) (aa R)) (aa R)) (aa R)) (aa R)) (aa R)) (aa R)) (aa R)))) (aa R))))) (aa R))))))) U) (aa R))) (aa R))) (aa R))) (aa R)
def R4:Prop :=
 (cw (some false) a0).wp K U (fun v7 U =>
 eW 4 [a0,a1,v7,(.int .i64 0)] U fun lp v0 v1 lD v8 U =>
 (ax .lss aS false v8 lD).wp K U (fun v9 U =>
 aw v9 (
 (aL (some (9,1)) none v0 v8).wp K U (fun ct U =>
 (aj aE ct U).wp K U (fun bZ U =>
 (ax .eql aS false v1 bZ).wp K U (fun cO U =>
 aw cO (
 ak R v8 U) (
 (ax .add aS true v8 (.int .i64 1)).wp K U (fun cu U =>
 lp v0 v1 lD cu U) (aa R))) (aa R)) (aa R)) (aa R)) (
 ak R (.int .i64 (-1)) U)) (aa R)) (aa R)
def R6:Prop :=
 (cw (some false) a1).wp K U (fun v8 U =>
 eW 4 [a0,a1,v8,(.int .i64 0)] U fun lp v0 v7 pw v9 U =>
 (ax .lss aS false v9 pw).wp K U (fun v10 U =>
 aw v10 (
 (aL (some (9,1)) none v7 v9).wp K U (fun v11 U =>
 (aj aE v11 U).wp K U (fun v12 U =>
 jR 6 (fun iy v5 v6 lD agr lR U =>
 (aW iy).wp K U (fun dZ U =>
 (af (some 1) dZ).wp K U (fun v24 U =>
 (aj aE v24 U).wp K U (fun eR U =>
 (dO (some [(0,1),(1,1),(2,1)]) (some [.int .u8 0,.str [],.int .i64 0]) none [(0,v6),(1,v5)]).wp K U (fun v28 U =>
 (ar (some (51,3)) (some [.int .u8 0,.str [],.int .i64 0]) 1 false [(0,v28)]).wp K U (fun ej U =>
 (eH (some (51,3)) false eR ej U).wp K U (fun v30 U =>
 (aW iy).wp K U (fun v31 U =>
 (af (some 1) v31).wp K U (fun fI U =>
 (aF aE fI v30 U).wp K U (fun _ U =>
 (ax .add aS true lR (.int .i64 1)).wp K U (fun fC U =>
 lp iy lD agr fC U) (aa R)) (aa R)) (aa R)) (aa R)) (aa R)) (aa R)) (aa R)) (aa R)) (aa R)) (aa R)) fun j =>
 (iv true none none v12 (.int .i64 0)).wp K U (fun ct U =>
 (ax .geq aS true ct (.int .u8 97)).wp K U (fun bZ U =>
 ao K (aP bZ true) (aD.val v12) (fun dv =>
 ao K (aP bZ true) (iv true none none dv (.int .i64 0)) (fun cu =>
 ao K (aP bZ true) (ax .leq aS true cu (.int .u8 122)) (fun da =>
 (bQ bZ da (.bool false)).wp K U (fun v20 U =>
 aw v20 (
 j v0 v12 (.int .u8 3) v7 pw v9 U) (
 j v0 v12 (.int .u8 4) v7 pw v9 U)) (aa R))))) (aa R)) (aa R)) (aa R)) (aa R)) (
 ak R (.aH []) U)) (aa R)) (aa R)
def R8:Prop :=
 (aW a0).wp K U (fun v6 U =>
 (af (some 1) v6).wp K U (fun v7 U =>
 (aj aE v7 U).wp K U (fun v8 U =>
 (dO (some [(0,1),(1,1),(2,1)]) (some [.int .u8 0,.str [],.int .i64 0]) none [(0,(.int .u8 1)),(1,a1)]).wp K U (fun v10 U =>
 (ar (some (51,3)) (some [.int .u8 0,.str [],.int .i64 0]) 1 false [(0,v10)]).wp K U (fun v11 U =>
 (eH (some (51,3)) false v8 v11 U).wp K U (fun v12 U =>
 (aW a0).wp K U (fun ck U =>
 (af (some 1) ck).wp K U (fun ct U =>
 (aF aE ct v12 U).wp K U (fun _ U =>
 ak R (.aH []) U) (aa R)) (aa R)) (aa R)) (aa R)) (aa R)) (aa R)) (aa R)) (aa R)) (aa R)
def Sa:Prop :=
 (cw (some false) a1).wp K U (fun v7 U =>
 eW 4 [a0,a1,v7,(.int .i64 0)] U fun lp v0 v6 lD v8 U =>
 (ax .lss aS false v8 lD).wp K U (fun v9 U =>
 aw v9 (
 (aL (some (3,1)) none v6 v8).wp K U (fun v11 U =>
 (aj aE v11 U).wp K U (fun v12 U =>
 jR 5 (fun iy v5 pv VD pw U =>
 ae K 123 [iy,v5] U (ag (fun v20 U =>
 (ax .add aS true pw (.int .i64 1)).wp K U (fun v21 U =>
 lp iy pv VD v21 U) (aa R)) (aa R))) fun j =>
 (ax .gtr aS true v8 (.int .i64 0)).wp K U (fun ct U =>
 aw ct (
 (ar (some (9,1)) (some [.str []]) 1 false [(0,(.str cV))]).wp K U (fun cO U =>
 ae K 231 [v0,cO] U (ag (fun dv U =>
 j v0 v12 v6 lD v8 U) (aa R))) (aa R)) (
 j v0 v12 v6 lD v8 U)) (aa R)) (aa R)) (aa R)) (
 ak R (.aH []) U)) (aa R)) (aa R)
def Sc:Prop :=
 (fun aq:St =>
 aB K (aW a0) (fun v6 =>
 aB K (af (some 1) v6) (fun v7 =>
 aB K (aj aE v7 aq) (fun v8 =>
 aB K (aD.enter 257 [a1]) (fun v10 =>
 aB K (dO (some [(0,1),(1,1),(2,1)]) (some [.int .u8 0,.str [],.int .i64 0]) none [(0,(.int .u8 2)),(1,v10)]) (fun v11 =>
 aB K (ar (some (51,3)) (some [.int .u8 0,.str [],.int .i64 0]) 1 false [(0,v11)]) (fun v12 =>
 (eH (some (51,3)) false v8 v12 U).wp K U (fun ck U=>cY ((eL v7++[])++[]) aq U /\
 aB K (aW a0) (fun ct =>
 aB K (af (some 1) ct) (fun bZ =>
 (aF aE bZ ck U).wp K U (fun _ U =>
 ak R (.aH []) U) (aa R)))) (aa R)))))))) U
def Se:Prop :=
 (aW a0).wp K U (fun v8 U =>
 (af (some 0) v8).wp K U (fun v9 U =>
 (af (some 0) v9).wp K U (fun v10 U =>
 (af (some 0) v10).wp K U (fun v11 U =>
 (aj aE v11 U).wp K U (fun v12 U =>
 (aL (some (43,6)) none v12 a1).wp K U (fun ct U =>
 (af (some 0) ct).wp K U (fun bZ U =>
 (aj aE bZ U).wp K U (fun cO U =>
 ae K 236 [a0,cO] U (ag (fun dv U =>
 (ax .geq aS false dv a2).wp K U (fun da U =>
 aw da (
 ae K 123 [a0,a1] U (ag (fun dL U =>
 ak R (.aH []) U) (aa R))) (
 (ar (some (9,1)) (some [.str []]) 1 false [(0,(.str cP))]).wp K U (fun v24 U =>
 ae K 231 [a0,v24] U (ag (fun eR U =>
 ae K 123 [a0,a1] U (ag (fun v28 U =>
 (ar (some (9,1)) (some [.str []]) 1 false [(0,(.str cC))]).wp K U (fun v30 U =>
 ae K 231 [a0,v30] U (ag (fun v31 U =>
 ak R (.aH []) U) (aa R))) (aa R)) (aa R))) (aa R))) (aa R))) (aa R)) (aa R))) (aa R)) (aa R)) (aa R)) (aa R)) (aa R)) (aa R)) (aa R)) (aa R)
def Sg:Prop :=
 (aW a0).wp K U (fun v10 U =>
 (af (some 2) v10).wp K U (fun v11 U =>
 (aj aE v11 U).wp K U (fun v12 U =>
 (uF (some (.i,185)) v12).wp K U (fun ck U =>
 eW 2 [a1,ck] U fun lp v1 rM U =>
 (sJ rM U).wp K U (fun ct U =>
 (aT ct 0).wp K U (fun bZ U =>
 aw bZ (
 (mX rM U).wp K U (fun cO U =>
 (aT cO 0).wp K U (fun dv U =>
 (aT cO 1).wp K U (fun cu U =>
 (uF (some (.s,5)) cu).wp K U (fun v20 U =>
 eW 4 [v1,dv,rM,v20] U fun Uu od v5 DH NJ U =>
 (sJ NJ U).wp K U (fun v21 U =>
 (aT v21 0).wp K U (fun dL U =>
 aw dL (
 (mX NJ U).wp K U (fun dZ U =>
 (aT dZ 1).wp K U (fun v24 U =>
 (ax .eql aS false v24 od).wp K U (fun dW U =>
 aw dW (
 ak R v5 U) (
 Uu od v5 DH NJ U)) (aa R)) (aa R)) (aa R)) (
 lp od DH U)) (aa R)) (aa R)) (aa R)) (aa R)) (aa R)) (aa R)) (
 (ax .eql aS true v1 (.int .u8 9)).wp K U (fun v31 U =>
 aw v31 (
 ak R (.int .i64 0) U) (
 (ax .eql aS true v1 (.int .u8 19)).wp K U (fun ic U =>
 aw ic (
 ak R (.int .i64 4) U) (
 (ax .geq aS true v1 (.int .u8 10)).wp K U (fun v37 U =>
 ao K (aP v37 true) (aD.val v1) (fun lN =>
 ao K (aP v37 true) (ax .leq aS true lN (.int .u8 16)) (fun v40 =>
 (bQ v37 v40 (.bool false)).wp K U (fun jv U =>
 aw jv (
 ak R (.int .i64 1) U) (
 ak R (.int .i64 9) U)) (aa R)))) (aa R))) (aa R))) (aa R))) (aa R)) (aa R)) (aa R)) (aa R)) (aa R)) (aa R)
def Si:Prop :=
 (cw (some false) a1).wp K U (fun v9 U =>
 eW 5 [a0,a2,a1,v9,(.int .i64 0)] U fun lp v0 v2 v8 lR v10 U =>
 (ax .lss aS false v10 lR).wp K U (fun v11 U =>
 aw v11 (
 (aL (some (3,1)) none v8 v10).wp K U (fun ck U =>
 (aj aE ck U).wp K U (fun ct U =>
 (aL (some (9,1)) none v2 v10).wp K U (fun cu U =>
 (aj aE cu U).wp K U (fun da U =>
 (ar (some (9,1)) (some [.str []]) 1 false [(0,da)]).wp K U (fun v20 U =>
 ae K 231 [v0,v20] U (ag (fun v21 U =>
 ae K 235 [v0,ct,(.int .i64 1)] U (ag (fun v24 U =>
 (ax .add aS true v10 (.int .i64 1)).wp K U (fun eR U =>
 lp v0 v2 v8 lR eR U) (aa R)) (aa R))) (aa R))) (aa R)) (aa R)) (aa R)) (aa R)) (aa R)) (
 ak R (.aH []) U)) (aa R)) (aa R)
def Sm:Prop :=
 (aj aE a1 U).wp K U (fun v5 U =>
 (ax .eql aS false a0 v5).wp K U (fun v6 U =>
 ak R v6 U) (aa R)) (aa R)
def So:Prop :=
 (cw (some false) a0).wp K U (fun v7 U =>
 eW 4 [a0,a1,v7,(.int .i64 0)] U fun lp v0 v1 lD v8 U =>
 (ax .lss aS false v8 lD).wp K U (fun v9 U =>
 aw v9 (
 (aL (some (178,1)) none v0 v8).wp K U (fun ct U =>
 (aj aE ct U).wp K U (fun bZ U =>
 (ax .eql aS false v1 bZ).wp K U (fun cO U =>
 aw cO (
 ak R v8 U) (
 (ax .add aS true v8 (.int .i64 1)).wp K U (fun cu U =>
 lp v0 v1 lD cu U) (aa R))) (aa R)) (aa R)) (aa R)) (
 ak R (.int .i64 (-1)) U)) (aa R)) (aa R)
def Sr:Prop :=
 (aD.vg).wp K U (fun v10 U =>
 (dX (some (.s,5)) v10 (.str dB) (.int .u8 27) U).wp K U (fun _ U =>
 (dX (some (.s,5)) v10 (.str dE) (.int .u8 28) U).wp K U (fun _ U =>
 (dX (some (.s,5)) v10 (.str fB) (.int .u8 29) U).wp K U (fun _ U =>
 (dX (some (.s,5)) v10 (.str gw) (.int .u8 30) U).wp K U (fun _ U =>
 (dX (some (.s,5)) v10 (.str jI) (.int .u8 31) U).wp K U (fun _ U =>
 (dX (some (.s,5)) v10 (.str lM) (.int .u8 32) U).wp K U (fun _ U =>
 ae K 253 [a0] U (ag (fun bZ U =>
 (et (some (.s,5)) (some (.int .u8 0)) v10 bZ true U).wp K U (fun cO U =>
 (aT cO 0).wp K U (fun dv U =>
 (aT cO 1).wp K U (fun cu U =>
 aw cu (
 ae K 99 [a0,dv] U (ag (fun dL U =>
 (aW a0).wp K U (fun v24 U =>
 (af (some 1) v24).wp K U (fun eR U =>
 (aj aE eR U).wp K U (fun fR U =>
 (ax .add aS true fR (.int .i64 1)).wp K U (fun dW U =>
 (aW a0).wp K U (fun v28 U =>
 (af (some 1) v28).wp K U (fun ej U =>
 (aF aE ej dW U).wp K U (fun _ U =>
 jR 1 (fun v6 U =>
 ak R v6 U) fun j =>
 (ax .eql aS true dv (.int .u8 31)).wp K U (fun v31 U =>
 ao K (aP v31 false) (aD.val dv) (fun fC =>
 ao K (aP v31 false) (ax .eql aS true fC (.int .u8 32)) (fun ic =>
 (bQ v31 (.bool true) ic).wp K U (fun hU U =>
 aw hU (
 ae K 101 [a0] U (ag (fun gH U =>
 (aW dL).wp K U (fun lN U =>
 (af (some 0) lN).wp K U (fun v40 U =>
 (af (some 1) v40).wp K U (fun jv U =>
 (aF aE jv gH U).wp K U (fun _ U =>
 j dL U) (aa R)) (aa R)) (aa R)) (aa R)) (aa R))) (
 j dL U)) (aa R)))) (aa R)) (aa R)) (aa R)) (aa R)) (aa R)) (aa R)) (aa R)) (aa R)) (aa R))) (
 ae K 100 [a0,(.str cP)] U (ag (fun nz U =>
 aw nz (
 ae K 109 [a0] U (ag (fun v46 U =>
 ae K 102 [a0,(.str cC)] U (ag (fun qY U =>
 ak R v46 U) (aa R))) (aa R))) (
 ae K 167 [a0,(.int .i64 0)] U (ag (fun v51 U =>
 (uV (some (0,false,1)) v51).wp K U (fun o0 U =>
 (ax .eql aS true o0 (.int .u8 2)).wp K U (fun v53 U =>
 aw v53 (
 ae K 99 [a0,(.int .u8 26)] U (ag (fun nD U =>
 ae K 168 [a0] U (ag (fun o4 U =>
 (aW nD).wp K U (fun v59 U =>
 (af (some 0) v59).wp K U (fun uJ U =>
 (af (some 2) uJ).wp K U (fun nK U =>
 (aF aE nK o4 U).wp K U (fun _ U =>
 ak R nD U) (aa R)) (aa R)) (aa R)) (aa R)) (aa R))) (aa R))) (
 ae K 99 [a0,(.int .u8 33)] U (ag (fun uK U =>
 ae K 101 [a0] U (ag (fun tG U =>
 (aW uK).wp K U (fun xe U =>
 (af (some 0) xe).wp K U (fun vu U =>
 (af (some 1) vu).wp K U (fun v70 U =>
 (aF aE v70 tG U).wp K U (fun _ U =>
 jR 1 (fun v9 U =>
 ak R v9 U) fun Pw =>
 ae K 100 [a0,(.str cP)] U (ag (fun v72 U =>
 aw v72 (
 (aW uK).wp K U (fun uL U =>
 (af (some 0) uL).wp K U (fun v75 U =>
 (af (some 0) v75).wp K U (fun v76 U =>
 (aF aE v76 (.int .u8 34) U).wp K U (fun _ U =>
 ae K 106 [a0,uK,(.func (.func 269) [a0] [])] U (ag (fun Xy U =>
 ae K 102 [a0,(.str cC)] U (ag (fun v83 U =>
 Pw uK U) (aa R))) (aa R))) (aa R)) (aa R)) (aa R)) (aa R)) (
 Pw uK U)) (aa R))) (aa R)) (aa R)) (aa R)) (aa R)) (aa R))) (aa R)))) (aa R)) (aa R)) (aa R)))) (aa R)))) (aa R)) (aa R)) (aa R)) (aa R))) (aa R)) (aa R)) (aa R)) (aa R)) (aa R)) (aa R)) (aa R)
def Su:Prop :=
 ae K 167 [a0,(.int .i64 0)] U (ag (fun v5 U =>
 (aD.cE [.int .u8 0,.str [],.int .i64 0]).wp K U (fun v3 U =>
 (aF (some (true,3)) v3 v5 U).wp K U (fun _ U =>
 (af (some 0) v3).wp K U (fun v6 U =>
 (aj aE v6 U).wp K U (fun v7 U =>
 (ax .eql aS true v7 (.int .u8 3)).wp K U (fun v8 U =>
 ao K (aP v8 false) (af (some 0) v3) (fun v10 =>
 ao K (aP v8 false) (aj aE v10 U) (fun v11 =>
 ao K (aP v8 false) (ax .eql aS true v11 (.int .u8 4)) (fun v12 =>
 (bQ v8 (.bool true) v12).wp K U (fun ck U =>
 aw ck (
 (af (some 1) v3).wp K U (fun ct U =>
 (aj aE ct U).wp K U (fun bZ U =>
 ak R bZ U) (aa R)) (aa R)) (
 ak R (.str w_) U)) (aa R))))) (aa R)) (aa R)) (aa R)) (aa R)) (aa R)) (aa R))
def Sw:Prop :=
 (ar (some (9,1)) (some [.str []]) 1 false [(0,(.str rR))]).wp K U (fun v7 U =>
 ae K 105 [a0,v7] U (ag (fun v8 U =>
 aw v8 (
 ae K 99 [a0,(.int .u8 35)] U (ag (fun v10 U =>
 ae K 102 [a0,(.str rR)] U (ag (fun v12 U =>
 ae K 102 [a0,(.str cP)] U (ag (fun ct U =>
 ae K 106 [a0,v10,(.func (.func 278) [a0] [])] U (ag (fun da U =>
 ae K 102 [a0,(.str cC)] U (ag (fun v21 U =>
 ae K 169 [a0] U (ag (fun v24 U =>
 (ar (some (87,1)) (some [.aY]) 1 false [(0,v24)]).wp K U (fun eR U =>
 ae K 103 [v10,eR] U (ag (fun fR U =>
 ak R fR U) (aa R))) (aa R)) (aa R))) (aa R))) (aa R))) (aa R))) (aa R))) (aa R))) (
 (ar (some (9,1)) (some [.str []]) 1 false [(0,(.str mO))]).wp K U (fun ej U =>
 ae K 105 [a0,ej] U (ag (fun v30 U =>
 aw v30 (
 ae K 99 [a0,(.int .u8 36)] U (ag (fun fI U =>
 ae K 102 [a0,(.str mO)] U (ag (fun ic U =>
 ae K 102 [a0,(.str yq)] U (ag (fun hX U =>
 ae K 169 [a0] U (ag (fun lN U =>
 (ar (some (87,1)) (some [.aY]) 1 false [(0,lN)]).wp K U (fun v40 U =>
 ae K 103 [fI,v40] U (ag (fun jv U =>
 ae K 102 [a0,(.str cH)] U (ag (fun iW U =>
 ae K 102 [a0,(.str yr)] U (ag (fun nA U =>
 ae K 278 [a0] U (ag (fun qY U =>
 (ar (some (87,1)) (some [.aY]) 1 false [(0,qY)]).wp K U (fun v49 U =>
 ae K 103 [fI,v49] U (ag (fun jG U =>
 ae K 102 [a0,(.str vw)] U (ag (fun o0 U =>
 ae K 169 [a0] U (ag (fun nD U =>
 (ar (some (87,1)) (some [.aY]) 1 false [(0,nD)]).wp K U (fun qg U =>
 ae K 103 [fI,qg] U (ag (fun qZ U =>
 ae K 102 [a0,(.str rQ)] U (ag (fun v59 U =>
 ak R fI U) (aa R))) (aa R))) (aa R)) (aa R))) (aa R))) (aa R))) (aa R)) (aa R))) (aa R))) (aa R))) (aa R))) (aa R)) (aa R))) (aa R))) (aa R))) (aa R))) (
 ae K 109 [a0] U (ag (fun xd U =>
 ak R xd U) (aa R)))) (aa R))) (aa R))) (aa R))) (aa R)
def Sy:Prop :=
 ae K 99 [a0,(.int .u8 37)] U (ag (fun v5 U =>
 ae K 101 [a0] U (ag (fun v8 U =>
 (aW v5).wp K U (fun v9 U =>
 (af (some 0) v9).wp K U (fun v10 U =>
 (af (some 1) v10).wp K U (fun v11 U =>
 (aF aE v11 v8 U).wp K U (fun _ U =>
 ak R v5 U) (aa R)) (aa R)) (aa R)) (aa R)) (aa R))) (aa R))
end
section
variable {a0 a1 a2 a3 a4 a5 a6:AV} {R:cR->St->Prop} {U:St}
theorem F4 (h:Jb a0 a1 a2 a3 R U):ae K 155 [a0,a1,a2,a3] U R:=bJ Tryz.f155 ZB h
theorem Rb (h:Ra a0 R U):ae K 156 [a0] U R:=bJ Tryz.f156 ZC h
theorem Re (h:Rc a0 R U):ae K 158 [a0] U R:=bJ Tryz.f158 ZD h
theorem Rh (h:Rf a0 R U):ae K 159 [a0] U R:=bJ Tryz.f159 ZE h
theorem Rj (h:Ri a0 R U):ae K 160 [a0] U R:=bJ Tryz.f160 ZF h
theorem Rl (h:Rk a0 R U):ae K 161 [a0] U R:=bJ Tryz.f161 ZG h
theorem Rp (h:Rm a0 R U):ae K 162 [a0] U R:=bJ Tryz.f162 ZH h
theorem Rr (h:Rq a0 R U):ae K 163 [a0] U R:=bJ Tryz.f163 ZI h
theorem Ru (h:Rs a0 R U):ae K 164 [a0] U R:=bJ Tryz.f164 ZJ h
theorem Rv (h:abJ a0 a1 R U):ae K 165 [a0,a1] U R:=bJ Tryz.f165 ZK h
theorem Rw (h:abK a0 R U):ae K 166 [a0] U R:=bJ Tryz.f166 ZL h
theorem Rz (h:Ry a0 a1 R U):ae K 167 [a0,a1] U R:=bJ Tryz.f167 ZM h
theorem RA (h:abL a0 R U):ae K 168 [a0] U R:=bJ Tryz.f168 ZN h
theorem RC (h:RB a0 R U):ae K 169 [a0] U R:=bJ Tryz.f169 ZO h
theorem RD (h:abM a0 a1 R U):ae K 178 [a0,a1] U R:=bJ Tryz.f178 ZP h
theorem RF (h:RE a0 R U):ae K 179 [a0] U R:=bJ Tryz.f179 ZQ h
theorem RH (h:RG a0 a1 a2 R U):ae K 180 [a0,a1,a2] U R:=bJ Tryz.f180 ZR h
theorem RJ (h:RI a0 R U):ae K 181 [a0] U R:=bJ Tryz.f181 ZS h
theorem F5 (h:Jc a0 a1 a2 R U):ae K 182 [a0,a1,a2] U R:=bJ Tryz.f182 ZT h
theorem F6 (h:Jd a0 a1 a2 R U):ae K 183 [a0,a1,a2] U R:=bJ Tryz.f183 ZU h
theorem po (h:s0 a0 a1 a2 R U):ae K 184 [a0,a1,a2] U R:=bJ Tryz.f184 ZV h
theorem RM (h:RL a0 R U):ae K 185 [a0] U R:=bJ Tryz.f185 ZW h
theorem qV (h:uH a0 a1 a2 R U):ae K 186 [a0,a1,a2] U R:=bJ Tryz.f186 ZX h
theorem vp (h:Ab a0 a1 a2 R U):ae K 187 [a0,a1,a2] U R:=bJ Tryz.f187 ZY h
theorem RO (h:RN a0 a1 R U):ae K 188 [a0,a1] U R:=bJ Tryz.f188 ZZ h
theorem RQ (h:RP a0 a1 R U):ae K 189 [a0,a1] U R:=bJ Tryz.f189 Z0 h
theorem RS (h:RR a0 R U):ae K 206 [a0] U R:=bJ Tryz.f206 Z1 h
theorem RU (h:RT a0 R U):ae K 207 [a0] U R:=bJ Tryz.f207 Z2 h
theorem RW (h:RV a0 R U):ae K 208 [a0] U R:=bJ Tryz.f208 Z3 h
theorem RY (h:RX a0 a1 R U):ae K 209 [a0,a1] U R:=bJ Tryz.f209 Z4 h
theorem F7 (h:Je a0 a1 R U):ae K 210 [a0,a1] U R:=bJ Tryz.f210 Z5 h
theorem F8 (h:abN a0 a1 R U):ae K 212 [a0,a1] U R:=bJ Tryz.f212 Z6 h
theorem RZ (h:abO a0 a1 R U):ae K 215 [a0,a1] U R:=bJ Tryz.f215 Z7 h
theorem R1 (h:R0 a0 R U):ae K 216 [a0] U R:=bJ Tryz.f216 Z8 h
theorem R3 (h:R2 a0 a1 R U):ae K 219 [a0,a1] U R:=bJ Tryz.f219 Z9 h
theorem R5 (h:R4 a0 a1 R U):ae K 230 [a0,a1] U R:=bJ Tryz.f230 aaa h
theorem R7 (h:R6 a0 a1 R U):ae K 231 [a0,a1] U R:=bJ Tryz.f231 aab h
theorem R9 (h:R8 a0 a1 R U):ae K 232 [a0,a1] U R:=bJ Tryz.f232 aac h
theorem Sb (h:Sa a0 a1 R U):ae K 233 [a0,a1] U R:=bJ Tryz.f233 aad h
theorem Sd (h:Sc a0 a1 R U):ae K 234 [a0,a1] U R:=bJ Tryz.f234 aae h
theorem Sf (h:Se a0 a1 a2 R U):ae K 235 [a0,a1,a2] U R:=bJ Tryz.f235 aaf h
theorem Sh (h:Sg a0 a1 R U):ae K 236 [a0,a1] U R:=bJ Tryz.f236 aag h
theorem Sj (h:Si a0 a1 a2 R U):ae K 237 [a0,a1,a2] U R:=bJ Tryz.f237 aah h
theorem Sn (h:Sm a0 a1 R U):ae K 242 [a0,a1] U R:=bJ Tryz.f242 aai h
theorem Sq (h:So a0 a1 R U):ae K 246 [a0,a1] U R:=bJ Tryz.f246 aaj h
theorem Ss (h:Sr a0 R U):ae K 252 [a0] U R:=bJ Tryz.f252 aak h
theorem Sv (h:Su a0 R U):ae K 253 [a0] U R:=bJ Tryz.f253 aal h
theorem Sx (h:Sw a0 R U):ae K 269 [a0] U R:=bJ Tryz.f269 aam h
theorem Sz (h:Sy a0 R U):ae K 278 [a0] U R:=bJ Tryz.f278 aan h
end
end Go.Rip
