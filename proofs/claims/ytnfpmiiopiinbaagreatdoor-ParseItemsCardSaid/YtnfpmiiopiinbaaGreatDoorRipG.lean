/- Lemmas for the proof: no conditions. -/
import Derived.Test.YtnfpmiiopiinbaaGreatDoorRipZz
import Derived.Test.YtnfpmiiopiinbaaGreatDoorRipD
set_option linter.unusedVariables false
set_option linter.unusedSimpArgs false
set_option linter.loopingSimpArgs false
set_option maxRecDepth 100000
namespace Go.Rip
open Go.Proofs
def Wh:An:=aj (bf (aj (.bk (.rf cu (.bk cu)))) (aj .z))
def Wi:An:=aj (.bk (.lp [0,2,3,5] (bf (aj (.cd .z .z)) (bf (.bk (aj (.cd .z .z))) cu))))
def Wj:An:=aj (aj (aj .z))
def Wl:An:=aj (aj (bf (aj (.bk (.lp [0,3,8,9,10] (aj (bf (.cd .z .z) (bf (.bk (aj (aj cu))) cu)))))) (aj .z)))
def Wm:An:=aj (aj (bf (aj (.bk (.lp [0,3,8,9,10] (aj (bf (.cd .z .z) (bf (.bk (aj (aj cu))) cu)))))) (aj .z)))
def Wn:An:=aj (aj (aj (aj (aj (aj (aj (aj (aj (aj .z)))))))))
def Wo:An:=aj (aj (aj (aj (aj (aj (aj (aj .z)))))))
def Wp:An:=aj (aj (aj (aj (aj (aj .z)))))
def Wq:An:=aj (aj (aj (aj (aj (aj (aj (aj .z)))))))
def Wr:An:=aj (bf (bf (.rg [] [] (some ⟨[(true,0),(true,1),(true,2),(true,3),(true,4),(true,5),(true,6),(true,7),(true,8),(true,9)],[⟨8,1,0⟩,⟨16,8,1⟩,⟨32,16,2⟩,⟨64,32,4⟩,⟨128,1,0⟩,⟨256,128,16⟩,⟨512,256,32⟩,⟨1024,512,64⟩,⟨2048,1024,128⟩,⟨4096,2112,264⟩]⟩)) (.cd (bf (.rg [] [] (some ⟨[(true,0),(true,1),(true,2),(true,3),(true,4),(true,5),(true,6),(true,7),(true,8),(true,9),(true,10),(true,11)],[⟨8192,1,0⟩,⟨16384,8192,1⟩,⟨32768,16384,2⟩,⟨65536,32768,4⟩,⟨131072,1,0⟩,⟨262144,131072,16⟩,⟨524288,262144,32⟩,⟨1048576,524288,64⟩,⟨2097152,1114112,136⟩,⟨4194304,2097152,256⟩,⟨8388608,4194304,512⟩,⟨4,8388608,2047⟩]⟩)) .z) .z)) (aj .z))
def Ws:An:=aj (aj (.sq (some [0,5]) (aj (.cd cu .z)) (aj (aj .z))))
def Wt:An:=cu
def Wu:An:=aj (bf (bf (.rg [] [] (some ⟨[(true,0),(true,1),(true,2),(true,3),(true,4),(true,5),(true,6),(true,7),(true,8),(true,9),(true,10),(true,11)],[⟨32,1,0⟩,⟨64,32,1⟩,⟨128,64,2⟩,⟨256,128,4⟩,⟨512,2,0⟩,⟨1024,768,24⟩,⟨2048,1,0⟩,⟨4096,2048,64⟩,⟨8192,4096,128⟩,⟨16384,8192,256⟩,⟨32768,16384,512⟩,⟨65536,33792,1056⟩]⟩)) (.cd (bf (.rg [] [] (some ⟨[(true,0),(true,1),(true,2),(true,3),(true,4),(true,5),(true,6),(true,7),(true,8),(true,9),(true,10),(true,11),(false,12)],[⟨131072,1,0⟩,⟨262144,131072,1⟩,⟨524288,262144,2⟩,⟨1048576,524288,4⟩,⟨2097152,1,0⟩,⟨4194304,2097152,16⟩,⟨8388608,4194304,32⟩,⟨16777216,8388608,64⟩,⟨33554432,2,0⟩,⟨67108864,50331648,384⟩,⟨134217728,68157440,520⟩,⟨268435456,134217728,1024⟩,⟨0,268435472,4095⟩]⟩)) .z) .z)) (aj .z))
def Wv:An:=aj (aj (.sq (some [3]) (aj (.cd cu .z)) (aj .z)))
def Ww:An:=aj (aj (bf (bf (.rg [] [] (some ⟨[(true,0),(true,1),(true,2),(true,3),(true,4),(true,5),(true,6),(true,7),(true,8),(true,9),(true,10),(true,11)],[⟨1024,1,0⟩,⟨2048,1024,1⟩,⟨4096,2048,2⟩,⟨8192,4096,4⟩,⟨16384,8,0⟩,⟨32768,16384,16⟩,⟨65536,40960,40⟩,⟨512,65536,64⟩,⟨131072,512,128⟩,⟨262144,512,128⟩,⟨16,131072,511⟩,⟨32,262144,2047⟩]⟩)) (aj (.cd (aj .z) .z))) (bf (.sq (some [0,36]) (.rg [] [121] none) (.cd (aj (aj (aj (aj .z)))) .z)) (aj .z))))
def Wx:An:=aj (aj .z)
def Wy:An:=aj (aj .z)
def Wz:An:=aj (aj (aj (.sq (some [0]) (aj (.cd (aj cu) (aj (aj (aj (aj (aj (aj cu)))))))) cu)))
def WA:An:=aj (aj .z)
def WB:An:=aj (.bk (aj (.cd (aj (aj (aj (aj cu)))) (aj (.cd cu (aj (.cd cu (aj cu))))))))
def WC:An:=aj (bf (aj (.cd (aj (aj .z)) .z)) (aj (aj (.sq (some [0,2,4,6,7]) (aj (.cd cu .z)) (aj (bf (aj (.bk (.lp [0,2,4,6,42] (aj (bf (.cd .z .z) (.bk (aj (aj (.cd cu .z))))))))) (bf (aj (.cd (aj .z) .z)) cu)))))))
def WD:An:=aj (aj (.bk (aj (.cd (aj (aj (.bk (.lp [0,18,19,20] (aj (bf (.cd .z .z) (bf (.bk (aj cu)) cu))))))) (aj (.cd cu (aj (.cd cu (aj (.cd cu (aj (.cd (aj (aj (aj (aj (aj (aj cu)))))) (aj (.cd (aj (aj cu)) (aj (.cd (aj cu) (aj (.cd (aj (aj (aj (aj cu)))) .z))))))))))))))))))
def WE:An:=aj (aj .z)
def WG:An:=aj (aj (.bk (aj (.cd cu (aj (.cd (aj cu) (aj (.cd (aj cu) (aj (.cd cu (aj (.cd (aj (aj (aj cu))) cu))))))))))))
def WH:An:=aj (aj (.bk (aj (.cd (aj (aj cu)) (aj (.cd cu (aj (.cd (aj (aj (aj cu))) (aj (.cd (aj (aj (aj (aj (aj cu))))) .z))))))))))
def WI:An:=aj (bf (aj (.cd (aj .z) .z)) (aj .z))
def WJ:An:=aj (aj (aj (aj .z)))
def WK:An:=aj (aj .z)
def WL:An:=aj (aj .z)
def WM:An:=aj (aj (aj .z))
def WN:An:=aj (bf (aj (.bk (.lp [0,1,11,12,13] (aj (bf (.cd .z .z) (bf (.bk (aj (aj (bf (aj (.bk (.lp [0,1,6,7,11,12,13,21,22,23] (aj (bf (.cd .z .z) (bf (.bk (aj cu)) cu)))))) (aj (bf (.bk (.lp [0,1,6,7,10,11,12,13] (bf (.sq (some [0,1,6,7,10,11,12,13,52]) (.rg [] [] (some ⟨[(true,0),(true,1),(true,2),(true,3),(true,4),(true,5),(true,6),(true,7),(true,8),(true,9),(true,10),(true,11),(true,12),(true,13),(true,14),(true,15),(true,16),(true,17),(true,18),(false,19),(true,20)],[⟨4294967296,1024,0⟩,⟨8589934592,1,0⟩,⟨17179869184,8589934592,2⟩,⟨34359738368,128,0⟩,⟨68719476736,51539607552,12⟩,⟨137438953472,73014444032,17⟩,⟨274877906944,137438953472,32⟩,⟨549755813888,274877907968,64⟩,⟨1099511627776,274877907008,64⟩,⟨2199023255552,1374389534720,320⟩,⟨4398046511104,3023656976384,704⟩,⟨8796093022208,4672924418048,1088⟩,⟨17592186044416,8796093022208,2112⟩,⟨35184372088832,17592186044480,4096⟩,⟨70368744177664,52776558133248,12288⟩,⟨140737488355328,17592186044417,4096⟩,⟨281474976710656,17592186045440,4096⟩,⟨562949953421312,439804651110400,102400⟩,⟨1125899906842624,580542139465728,135168⟩,⟨2251799813685248,1213860837064704,282624⟩,⟨4503599627370496,2269391999729664,528384⟩]⟩)) (.cd .z .z)) (.bk cu)))) (bf (aj (.cd (aj .z) .z)) cu))))))) cu)))))) (aj .z))
def WO:An:=aj (bf (aj (.bk (.lp [0,1,7,8] (aj (bf (.cd .z .z) (bf (.bk (aj (aj (.cd (aj .z) .z)))) cu)))))) (aj .z))
def WQ:An:=aj (bf (aj (aj (.cd (bf (.rg [] [] (some ⟨[(true,0),(true,1),(true,2),(true,3),(true,4),(true,5),(true,6),(true,7),(true,8),(true,9),(true,10),(true,11)],[⟨8192,1,0⟩,⟨16384,128,0⟩,⟨32768,24576,3⟩,⟨65536,1,0⟩,⟨131072,128,0⟩,⟨262144,2,0⟩,⟨524288,262144,32⟩,⟨1048576,655360,80⟩,⟨2097152,1114112,136⟩,⟨16,32768,7⟩,⟨32,2097152,1023⟩,⟨64,0,2047⟩]⟩)) .z) .z))) (aj .z))
def WR:An:=aj (aj .z)
def WS:An:=aj (bf (.bk (aj (.cd (aj .z) (aj (.cd (aj .z) (aj (.cd (aj .z) (aj (.cd (aj .z) (aj (.cd (aj .z) .z))))))))))) (aj .z))
def WT:An:=aj (bf (aj (.bk (aj (.cd (aj .z) (aj (.cd (bf (aj (aj (.cd (aj .z) .z))) (aj .z)) .z)))))) (aj (.bk (.lp [0,1,6] (.bk (bf (.rg [] [] (some ⟨[(true,0),(true,1),(true,2),(true,3),(true,4),(true,5),(true,6),(false,7),(true,8),(true,9),(true,10),(true,11),(true,12),(true,13)],[⟨34359738368,1,0⟩,⟨68719476736,34359738368,1⟩,⟨137438953472,68719476736,2⟩,⟨274877906944,137438953472,4⟩,⟨549755813888,2,0⟩,⟨1099511627776,824633720832,24⟩,⟨2199023255552,1,0⟩,⟨4398046511104,2199023255552,64⟩,⟨8796093022208,5497558138880,160⟩,⟨17179869184,8796093022208,256⟩,⟨17592186044416,17179869184,512⟩,⟨35184372088832,17179869184,512⟩,⟨128,17592186044416,2047⟩,⟨256,35184372088832,8191⟩]⟩)) (bf (aj (.cd (aj .z) .z)) (aj (aj (bf (aj (.cd (aj (aj .z)) .z)) (aj (aj (.cd (aj .z) .z)))))))))))))
def WU:An:=aj (bf (aj (.bk (.lp [0,1,7,8] (aj (bf (.cd .z .z) (bf (.bk (aj (aj (.cd (aj .z) .z)))) cu)))))) (aj .z))
def WV:An:=aj (.bk (.lp [0,7,8,9] (aj (bf (.cd .z .z) (bf (.bk (aj (aj (.sq (some [0,5,6,7,8,9]) (aj (.cd cu .z)) cu)))) cu)))))
def WW:An:=cu
def WX:An:=aj (.bk (.lp [0,6,7,8] (aj (bf (.cd .z .z) (bf (.bk (aj (.sq (some [0,5,6,7,8]) (aj (.cd cu .z)) cu))) cu)))))
def WY:An:=.rg [] [] (some ⟨[(true,0),(true,1),(true,2),(true,3),(true,4),(true,5),(true,6),(true,7),(true,8),(false,9),(true,10),(true,11),(false,12)],[⟨16,1,0⟩,⟨32,1,0⟩,⟨64,32,2⟩,⟨128,64,4⟩,⟨256,128,8⟩,⟨512,2,0⟩,⟨1024,512,32⟩,⟨2048,1024,64⟩,⟨4096,2048,128⟩,⟨8192,4352,336⟩,⟨16384,16,1023⟩,⟨32768,16384,2047⟩,⟨0,40960,3071⟩]⟩)
def WZ:An:=bf (aj (.cd (aj .z) .z)) (aj (aj cu))
def W0:An:=aj (bf (aj (.bk (.lp [1,13] (aj (bf (.cd .z .z) (.bk (aj (aj (.bk (.lp [1,5,13,20] (aj (bf (.cd .z .z) (.bk (aj (aj (.cd (aj .z) .z)))))))))))))))) (bf (.bk (aj (.cd (aj .z) (aj (.cd (aj .z) (aj (.cd (aj .z) .z))))))) (aj .z)))
def W1:An:=aj (.bk (.lp [0,2,8,9,10] (aj (bf (.cd .z .z) (bf (.bk (aj (aj cu))) cu)))))
def W2:An:=aj (aj .z)
def W3:An:=aj (bf (aj (.bk (.lp [0,1,7,8] (aj (bf (.cd .z .z) (bf (.bk (aj (aj (.cd (aj .z) .z)))) cu)))))) (aj .z))
def W4:An:=aj (aj (bf (aj (aj (.cd (aj (aj (.sq (some [6]) (aj (.cd cu .z)) (aj .z)))) .z))) (bf (aj (.cd (aj (aj (aj .z))) .z)) (bf (aj (.cd (aj (aj (aj .z))) .z)) (aj (aj (.sq (some [9]) (aj (.cd (aj (aj cu)) .z)) (aj .z))))))))
def W5:An:=aj (bf (aj (aj (.cd (aj .z) .z))) (aj .z))
def W6:An:=aj (bf (.bk (aj (.cd (aj (aj (aj (aj (aj (aj .z)))))) (aj (.cd (aj (aj (aj (aj (aj (aj (aj (aj (aj (aj (aj .z))))))))))) .z))))) (aj .z))
def W7:An:=aj (aj (aj (aj .z)))
section
variable (a0 a1 a2 a3 a4 a5 a6:AV) (R:cA->St->Prop) (U:St)
def Ol:Prop :=
 (dT a0).wp K U (fun v2 U =>
 nq K 1 a1 U (fun v7 q U =>
 q.xU (fun U =>
 (ah aA v2 U).wp K U (fun v8 U =>
 (aq (some (3,1)) (some [.int .i64 0]) 1 false [(0,v7)]).wp K U (fun v10 U =>
 (ez (some (3,1)) false v8 v10 U).wp K U (fun v11 U =>
 (aJ aA v2 v11 U).wp K U (fun _ U =>
 q.n U) (fun _ _=>False)) (fun _ _=>False)) (fun _ _=>False)) (fun _ _=>False)) U) (fun U =>
 (ah aA v2 U).wp K U (fun v12 U =>
 ak R v12 U) (aa R)) (fun i U =>
 AM (Nat.beq i 0) (
 (ah aA v2 U).wp K U (fun EB U =>
 ak R EB U) (aa R)) (
 False)) (fun U =>
 ak R .aw U) (fun x U=>(aa R) x U)) (aa R)
def GN:Prop :=
 (ah aA a1 U).wp K U (fun v6 U =>
 (ar .add aM true v6 (.int .i64 1)).wp K U (fun v7 U =>
 eP 4 [a0,a2,a3,v7] U fun lp v0 v2 v3 v5 U =>
 (ah aA v2 U).wp K U (fun v9 U =>
 (ar .lss aM false v5 v9).wp K U (fun v10 U =>
 ai K (aH v10 true) (af (some 0) v3) (fun v12 =>
 ai K (aH v10 true) (af (some 0) v12) (fun cb =>
 ai K (aH v10 true) (ah aA cb U) (fun ct =>
 ai K (aH v10 true) (aD.val v5) (fun bM =>
 ai K (aH v10 true) (aG (some (43,6)) none ct bM) (fun dc =>
 ai K (aH v10 true) (af (some 5) dc) (fun cZ =>
 ai K (aH v10 true) (ah aA cZ U) (fun cm =>
 ai K (aH v10 true) (ar .gtr aM true cm (.int .i64 0)) (fun cL =>
 (bp v10 cL (.bool false)).wp K U (fun v20 U =>
 av v20 (
 (gr K.P v0 [v5]).wp K U (fun eU U =>
 (jC .not eU).wp K U (fun eR U =>
 av eR (
 ak R (.aF []) U) (
 (af (some 0) v3).wp K U (fun dS U =>
 (af (some 0) dS).wp K U (fun dZ U =>
 (ah aA dZ U).wp K U (fun v24 U =>
 (aG (some (43,6)) none v24 v5).wp K U (fun fM U =>
 (af (some 5) fM).wp K U (fun dK U =>
 (ah aA dK U).wp K U (fun v28 U =>
 (ar .add aM false v5 v28).wp K U (fun dE U =>
 lp v0 v2 v3 dE U) (aa R)) (aa R)) (aa R)) (aa R)) (aa R)) (aa R)) (aa R))) (aa R)) (aa R)) (
 ak R (.aF []) U)) (aa R)))))))))) (aa R)) (aa R)) (aa R)) (aa R)
def On:Prop :=
 (dT a0).wp K U (fun v1 U =>
 (af (some 1) v1).wp K U (fun v6 U =>
 (ah aA v6 U).wp K U (fun v7 U =>
 ae K 77 [v7] U (ag (fun v8 U =>
 (aR v8 0).wp K U (fun v9 U =>
 (aR v8 1).wp K U (fun v10 U =>
 (aD.cP [.int .u8 0,.str [],.int .i64 0]).wp K U (fun v3 U =>
 (aJ (some (true,3)) v3 v9 U).wp K U (fun _ U =>
 (ar .eql aM true v10 (.int .i64 0)).wp K U (fun v12 U =>
 ai K (aH v12 true) (af (some 0) v3) (fun ct =>
 ai K (aH v12 true) (ah aA ct U) (fun bM =>
 ai K (aH v12 true) (af (some 0) v1) (fun dc =>
 ai K (aH v12 true) (ah aA dc U) (fun cZ =>
 ai K (aH v12 true) (ar .eql aM false bM cZ) (fun cm =>
 (bp v12 cm (.bool false)).wp K U (fun cL U =>
 ai K (aH cL true) (af (some 1) v3) (fun v21 =>
 ai K (aH cL true) (ah aA v21 U) (fun dS =>
 ai K (aH cL true) (af (some 1) v1) (fun dZ =>
 ai K (aH cL true) (ah aA dZ U) (fun v24 =>
 ai K (aH cL true) (ar .eql aM false dS v24) (fun eL =>
 (bp cL eL (.bool false)).wp K U (fun fM U =>
 ak R fM U) (aa R))))))) (aa R))))))) (aa R)) (aa R)) (aa R)) (aa R)) (aa R)) (aa R))) (aa R)) (aa R)) (aa R)
def Oq:Prop :=
 ae K 99 [a0,(.int .u8 10)] U (ag (fun v7 U =>
 (aq (some (9,1)) (some [.str []]) 3 false [(0,(.str uk)),(1,(.str pS)),(2,(.str fZ))]).wp K U (fun v8 U =>
 (cj (some false) v8).wp K U (fun v9 U =>
 eP 5 [a0,v7,v8,v9,(.int .i64 0)] U fun lp v0 v3 nx ke v10 U =>
 (ar .lss aM false v10 ke).wp K U (fun v11 U =>
 av v11 (
 (aG (some (9,1)) none nx v10).wp K U (fun v12 U =>
 (ah aA v12 U).wp K U (fun cb U =>
 ae K 102 [v0,cb] U (ag (fun dc U =>
 ae K 169 [v0] U (ag (fun cL U =>
 (aq (some (87,1)) (some [.aV]) 1 false [(0,cL)]).wp K U (fun v20 U =>
 ae K 103 [v3,v20] U (ag (fun v21 U =>
 (ar .add aM true v10 (.int .i64 1)).wp K U (fun dS U =>
 lp v0 v3 nx ke dS U) (aa R)) (aa R))) (aa R)) (aa R))) (aa R))) (aa R)) (aa R)) (
 ak R v3 U)) (aa R)) (aa R)) (aa R)) (aa R))
def Ou:Prop :=
 ae K 99 [a0,(.int .u8 11)] U (ag (fun v7 U =>
 (aq (some (9,1)) (some [.str []]) 2 false [(0,(.str lz)),(1,(.str uj))]).wp K U (fun v8 U =>
 (cj (some false) v8).wp K U (fun v9 U =>
 eP 5 [a0,v7,v8,v9,(.int .i64 0)] U fun lp v0 v3 nx ke v10 U =>
 (ar .lss aM false v10 ke).wp K U (fun v11 U =>
 av v11 (
 (aG (some (9,1)) none nx v10).wp K U (fun v12 U =>
 (ah aA v12 U).wp K U (fun cb U =>
 ae K 102 [v0,cb] U (ag (fun dc U =>
 ae K 169 [v0] U (ag (fun cL U =>
 (aq (some (87,1)) (some [.aV]) 1 false [(0,cL)]).wp K U (fun v20 U =>
 ae K 103 [v3,v20] U (ag (fun v21 U =>
 (ar .add aM true v10 (.int .i64 1)).wp K U (fun dS U =>
 lp v0 v3 nx ke dS U) (aa R)) (aa R))) (aa R)) (aa R))) (aa R))) (aa R)) (aa R)) (
 ak R v3 U)) (aa R)) (aa R)) (aa R)) (aa R))
def Ow:Prop :=
 ae K 99 [a0,(.int .u8 12)] U (ag (fun v5 U =>
 ae K 102 [a0,(.str rM)] U (ag (fun v7 U =>
 ae K 101 [a0] U (ag (fun v10 U =>
 (aY v5).wp K U (fun v11 U =>
 (af (some 0) v11).wp K U (fun v12 U =>
 (af (some 1) v12).wp K U (fun cb U =>
 (aJ aA cb v10 U).wp K U (fun _ U =>
 ae K 102 [a0,(.str gX)] U (ag (fun bM U =>
 ae K 168 [a0] U (ag (fun cm U =>
 (aY v5).wp K U (fun cL U =>
 (af (some 0) cL).wp K U (fun v20 U =>
 (af (some 2) v20).wp K U (fun v21 U =>
 (aJ aA v21 cm U).wp K U (fun _ U =>
 ae K 102 [a0,(.str bX)] U (ag (fun dZ U =>
 ae K 168 [a0] U (ag (fun fM U =>
 (aY v5).wp K U (fun dK U =>
 (af (some 0) dK).wp K U (fun v28 U =>
 (af (some 3) v28).wp K U (fun dE U =>
 (aJ aA dE fM U).wp K U (fun _ U =>
 ae K 102 [a0,(.str lT)] U (ag (fun v31 U =>
 ae K 169 [a0] U (ag (fun gn U =>
 (aq (some (87,1)) (some [.aV]) 1 false [(0,gn)]).wp K U (fun gy U =>
 ae K 103 [v5,gy] U (ag (fun gp U =>
 ak R gp U) (aa R))) (aa R)) (aa R))) (aa R))) (aa R)) (aa R)) (aa R)) (aa R)) (aa R))) (aa R))) (aa R)) (aa R)) (aa R)) (aa R)) (aa R))) (aa R))) (aa R)) (aa R)) (aa R)) (aa R)) (aa R))) (aa R))) (aa R))
def Oy:Prop :=
 ae K 99 [a0,(.int .u8 13)] U (ag (fun v5 U =>
 ae K 102 [a0,(.str nL)] U (ag (fun v7 U =>
 ae K 101 [a0] U (ag (fun v10 U =>
 (aY v5).wp K U (fun v11 U =>
 (af (some 0) v11).wp K U (fun v12 U =>
 (af (some 1) v12).wp K U (fun cb U =>
 (aJ aA cb v10 U).wp K U (fun _ U =>
 ae K 102 [a0,(.str lT)] U (ag (fun bM U =>
 ae K 169 [a0] U (ag (fun cm U =>
 (aq (some (87,1)) (some [.aV]) 1 false [(0,cm)]).wp K U (fun cL U =>
 ae K 103 [v5,cL] U (ag (fun v20 U =>
 ae K 102 [a0,(.str fZ)] U (ag (fun dS U =>
 ae K 169 [a0] U (ag (fun eL U =>
 (aq (some (87,1)) (some [.aV]) 1 false [(0,eL)]).wp K U (fun fM U =>
 ae K 103 [v5,fM] U (ag (fun dK U =>
 ak R dK U) (aa R))) (aa R)) (aa R))) (aa R))) (aa R))) (aa R)) (aa R))) (aa R))) (aa R)) (aa R)) (aa R)) (aa R)) (aa R))) (aa R))) (aa R))
def OA:Prop :=
 ae K 99 [a0,(.int .u8 15)] U (ag (fun v5 U =>
 ae K 102 [a0,(.str kM)] U (ag (fun v7 U =>
 ae K 169 [a0] U (ag (fun v10 U =>
 (aq (some (87,1)) (some [.aV]) 1 false [(0,v10)]).wp K U (fun v11 U =>
 ae K 103 [v5,v11] U (ag (fun v12 U =>
 ae K 102 [a0,(.str fZ)] U (ag (fun ct U =>
 ae K 169 [a0] U (ag (fun cZ U =>
 (aq (some (87,1)) (some [.aV]) 1 false [(0,cZ)]).wp K U (fun cm U =>
 ae K 103 [v5,cm] U (ag (fun cL U =>
 ak R cL U) (aa R))) (aa R)) (aa R))) (aa R))) (aa R))) (aa R)) (aa R))) (aa R))) (aa R))
def OC:Prop :=
 ae K 99 [a0,(.int .u8 14)] U (ag (fun v5 U =>
 ae K 102 [a0,(.str lU)] U (ag (fun v7 U =>
 ae K 101 [a0] U (ag (fun v10 U =>
 (aY v5).wp K U (fun v11 U =>
 (af (some 0) v11).wp K U (fun v12 U =>
 (af (some 1) v12).wp K U (fun cb U =>
 (aJ aA cb v10 U).wp K U (fun _ U =>
 ae K 102 [a0,(.str bX)] U (ag (fun bM U =>
 ae K 168 [a0] U (ag (fun cm U =>
 (aY v5).wp K U (fun cL U =>
 (af (some 0) cL).wp K U (fun v20 U =>
 (af (some 2) v20).wp K U (fun v21 U =>
 (aJ aA v21 cm U).wp K U (fun _ U =>
 ae K 102 [a0,(.str lT)] U (ag (fun dZ U =>
 ae K 169 [a0] U (ag (fun fM U =>
 (aq (some (87,1)) (some [.aV]) 1 false [(0,fM)]).wp K U (fun dK U =>
 ae K 103 [v5,dK] U (ag (fun v28 U =>
 ak R v28 U) (aa R))) (aa R)) (aa R))) (aa R))) (aa R)) (aa R)) (aa R)) (aa R)) (aa R))) (aa R))) (aa R)) (aa R)) (aa R)) (aa R)) (aa R))) (aa R))) (aa R))
def OE:Prop :=
 (fun ao:St =>
 ax K (aY a0) (fun v4 =>
 ax K (af (some 1) v4) (fun v5 =>
 ax K (ah aA v5 ao) (fun v6 =>
 ax K (aY a0) (fun v8 =>
 ax K (af (some 0) v8) (fun v9 =>
 ax K (ah aA v9 ao) (fun v10 =>
 ax K (cj (some false) v10) (fun v11 =>
 ax K (ar .lss aM false v6 v11) (fun v12 =>
 av v12 (
 (fun jy:St =>
 ax K (aY a0) (fun ct =>
 ax K (af (some 0) ct) (fun bM =>
 ax K (ah aA bM jy) (fun dc =>
 ax K (aY a0) (fun cm =>
 ax K (af (some 1) cm) (fun cL =>
 ax K (ah aA cL jy) (fun v20 =>
 ax K (aG (some (51,3)) none dc v20) (fun v21 =>
 ax K (af (some 2) v21) (fun dS =>
 ax K (ah aA dS jy) (fun dZ =>
 ak R dZ U)))))))))) U) (
 (aY a0).wp K U (fun eL U =>
 (af (some 2) eL).wp K U (fun fM U =>
 (ah aA fM U).wp K U (fun dK U =>
 ak R dK U) (aa R)) (aa R)) (aa R))))))))))) U
def Zl:Prop :=
 ae K 167 [a0,(.int .i64 0)] U (ag (fun v7 U =>
 (aD.cP [.int .u8 0,.str [],.int .i64 0]).wp K U (fun v5 U =>
 (aJ (some (true,3)) v5 v7 U).wp K U (fun _ U =>
 jx 2 (fun v0 wo U =>
 (aY v0).wp K U (fun bM U =>
 (af (some 1) bM).wp K U (fun dc U =>
 (ah aA dc U).wp K U (fun cZ U =>
 (ar .add aM true cZ (.int .i64 1)).wp K U (fun cm U =>
 (aY v0).wp K U (fun cL U =>
 (af (some 1) cL).wp K U (fun v20 U =>
 (aJ aA v20 cm U).wp K U (fun _ U =>
 (af (some 1) wo).wp K U (fun v21 U =>
 (ah aA v21 U).wp K U (fun dS U =>
 ak R dS U) (aa R)) (aa R)) (aa R)) (aa R)) (aa R)) (aa R)) (aa R)) (aa R)) (aa R)) fun j =>
 (af (some 0) v5).wp K U (fun v8 U =>
 (ah aA v8 U).wp K U (fun v9 U =>
 (ar .neq aM false v9 a1).wp K U (fun v11 U =>
 av v11 (
 ae K 166 [a0] U (ag (fun cb U =>
 j a0 v5 U) (aa R))) (
 j a0 v5 U)) (aa R)) (aa R)) (aa R)) (aa R)) (aa R)) (aa R))
def Zm:Prop :=
 ae K 164 [a0] U (ag (fun v3 U =>
 (eh (some [(0,1)]) (some [.int .i64 0]) none [(0,v3)]).wp K U (fun v4 U =>
 (vN true 136 v4).wp K U (fun v5 U =>
 (sA v5).wp K U (fun _ U =>
 ak R (.aF []) U) (aa R)) (aa R)) (aa R)) (aa R))
def OI:Prop :=
 (aD.cP [.int .u8 0,.str [],.int .i64 0]).wp K U (fun v4 U =>
 (fun ao:St =>
 ax K (aY a0) (fun v6 =>
 ax K (af (some 1) v6) (fun v7 =>
 ax K (ah aA v7 ao) (fun v8 =>
 ax K (ar .add aM false v8 a1) (fun v10 =>
 ax K (aY a0) (fun v12 =>
 ax K (af (some 0) v12) (fun cb =>
 ax K (ah aA cb ao) (fun ct =>
 ax K (cj (some false) ct) (fun bM =>
 ax K (ar .lss aM false v10 bM) (fun dc =>
 av dc (
 (fun jy:St =>
 ax K (aY a0) (fun cm =>
 ax K (af (some 0) cm) (fun cL =>
 ax K (ah aA cL jy) (fun v20 =>
 ax K (aY a0) (fun dS =>
 ax K (af (some 1) dS) (fun dZ =>
 ax K (ah aA dZ jy) (fun v24 =>
 ax K (ar .add aM false v24 a1) (fun fM =>
 ax K (aG (some (51,3)) none v20 fM) (fun dK =>
 ax K (ah (some (true,3)) dK jy) (fun v28 =>
 (aJ (some (true,3)) v4 v28 U).wp K U (fun _ U =>
 br (some (true,3)) v4 U fun r0 =>
 ak R r0 U) (aa R))))))))))) U) (
 (eh (some [(0,1),(1,1),(2,1)]) (some [.int .u8 0,.str [],.int .i64 0]) none []).wp K U (fun dE U =>
 (aJ (some (true,3)) v4 dE U).wp K U (fun _ U =>
 br (some (true,3)) v4 U fun oR =>
 ak R oR U) (aa R)) (aa R)))))))))))) U) (aa R)
def Zn:Prop :=
 ae K 165 [a0,(.int .u8 2)] U (ag (fun v7 U =>
 ae K 218 [v7] U (ag (fun v8 U =>
 (aR v8 0).wp K U (fun v9 U =>
 (aR v8 1).wp K U (fun v10 U =>
 jx 1 (fun v3 U =>
 ak R v3 U) fun j =>
 (ar .neq (BT.mk false true false none false) true v10 .cJ).wp K U (fun v12 U =>
 av v12 (
 ae K 166 [a0] U (ag (fun ct U =>
 j v9 U) (aa R))) (
 j v9 U)) (aa R)) (aa R)) (aa R)) (aa R))) (aa R))
def OL:Prop :=
 ae K 167 [a0,(.int .i64 0)] U (ag (fun v8 U =>
 (aD.cP [.int .u8 0,.str [],.int .i64 0]).wp K U (fun v3 U =>
 (aJ (some (true,3)) v3 v8 U).wp K U (fun _ U =>
 (fun ao:St =>
 ax K (aY a0) (fun v11 =>
 ax K (af (some 4) v11) (fun v12 =>
 ax K (ah aA v12 ao) (fun cb =>
 ax K (af (some 1) v3) (fun ct =>
 ax K (ah aA ct ao) (fun bM =>
 ax K (dz (some (.s,186)) (some .dj) cb bM true ao) (fun dc =>
 ax K (aR dc 0) (fun cZ =>
 ax K (aR dc 1) (fun cm =>
 ai K (aH cm true) (af (some 0) v3) (fun v21 =>
 ai K (aH cm true) (ah aA v21 U) (fun dS =>
 ai K (aH cm true) (ar .eql aM true dS (.int .u8 3)) (fun dZ =>
 (bp cm dZ (.bool false)).wp K U (fun v24 U =>
 av v24 (
 (gr K.P cZ [a0]).wp K U (fun dK U =>
 ak R dK U) (aa R)) (
 jx 2 (fun v0 gp U =>
 av gp (
 ae K 99 [v0,(.int .u8 16)] U (ag (fun iv U =>
 ae K 101 [v0] U (ag (fun jE U =>
 (aY iv).wp K U (fun jF U =>
 (af (some 0) jF).wp K U (fun js U =>
 (af (some 1) js).wp K U (fun mb U =>
 (aJ aA mb jE U).wp K U (fun _ U =>
 ae K 102 [v0,(.str bX)] U (ag (fun v46 U =>
 ae K 169 [v0] U (ag (fun v49 U =>
 (aq (some (87,1)) (some [.aV]) 1 false [(0,v49)]).wp K U (fun ig U =>
 ae K 103 [iv,ig] U (ag (fun v51 U =>
 ak R v51 U) (aa R))) (aa R)) (aa R))) (aa R))) (aa R)) (aa R)) (aa R)) (aa R)) (aa R))) (aa R))) (
 ae K 219 [v0,(.int .i64 2)] U (ag (fun v53 U =>
 ak R v53 U) (aa R)))) fun j =>
 (af (some 0) v3).wp K U (fun v28 U =>
 (ah aA v28 U).wp K U (fun dE U =>
 (ar .eql aM true dE (.int .u8 1)).wp K U (fun v30 U =>
 ai K (aH v30 true) (aD.val a0) (fun eU =>
 av (aH v30 true) (
 ae K 167 [eU,(.int .i64 1)] U (ag (fun eR U =>
 ai K (aH v30 true) (aq (some (9,1)) (some [.str []]) 1 false [(0,(.str bX))]) (fun gn =>
 ai K (aH v30 true) (aD.enter 121 [eR,gn]) (fun gy =>
 (bp v30 gy (.bool false)).wp K U (fun oJ U =>
 j a0 oJ U) (aa R)))) (aa R))) (
 ai K (aH v30 true) (aq (some (9,1)) (some [.str []]) 1 false [(0,(.str bX))]) (fun BW =>
 ai K (aH v30 true) (aD.enter 121 [(.aF []),BW]) (fun BX =>
 (bp v30 BX (.bool false)).wp K U (fun abV U =>
 j a0 abV U) (aa R)))))) (aa R)) (aa R)) (aa R))) (aa R))))))))))))) U) (aa R)) (aa R)) (aa R))
def Zo:Prop :=
 ae K 230 [a0,a1] U (ag (fun v7 U =>
 (ar .geq aM true v7 (.int .i64 0)).wp K U (fun v8 U =>
 ak R v8 U) (aa R)) (aa R))
def OO:Prop :=
 (ar .geq aM true a0 (.int .u8 2)).wp K U (fun v4 U =>
 ai K (aH v4 true) (aD.val a0) (fun v6 =>
 ai K (aH v4 true) (ar .leq aM true v6 (.int .u8 4)) (fun v7 =>
 (bp v4 v7 (.bool false)).wp K U (fun v8 U =>
 ak R v8 U) (aa R)))) (aa R)
def OQ:Prop :=
 (dT a1).wp K U (fun v4 U =>
 (aD.tj).wp K U (fun v8 U =>
 (dp (some (.i,9)) v8 (.int .u8 2) (.str eS) U).wp K U (fun _ U =>
 (dp (some (.i,9)) v8 (.int .u8 3) (.str j0) U).wp K U (fun _ U =>
 (dp (some (.i,9)) v8 (.int .u8 4) (.str gz) U).wp K U (fun _ U =>
 (af (some 0) v4).wp K U (fun v10 U =>
 (ah aA v10 U).wp K U (fun v11 U =>
 (dz (some (.i,9)) (some (.str [])) v8 v11 false U).wp K U (fun v12 U =>
 (aq (some (9,1)) (some [.str []]) 1 false [(0,v12)]).wp K U (fun cb U =>
 ae K 231 [a0,cb] U (ag (fun ct U =>
 (af (some 1) v4).wp K U (fun dc U =>
 (ah aA dc U).wp K U (fun cZ U =>
 ae K 232 [a0,cZ] U (ag (fun cm U =>
 jx 1 (fun v0 U =>
 (aq (some (9,1)) (some [.str []]) 1 false [(0,(.str ff))]).wp K U (fun ly U =>
 ae K 231 [v0,ly] U (ag (fun sK U =>
 ak R (.aF []) U) (aa R))) (aa R)) fun j =>
 (af (some 0) v4).wp K U (fun cL U =>
 (ah aA cL U).wp K U (fun v20 U =>
 (ar .eql aM true v20 (.int .u8 2)).wp K U (fun v21 U =>
 av v21 (
 (aq (some (9,1)) (some [.str []]) 1 false [(0,(.str gX))]).wp K U (fun dZ U =>
 ae K 231 [a0,dZ] U (ag (fun v24 U =>
 (aG (some (3,1)) none a2 (.int .i64 0)).wp K U (fun dK U =>
 (ah aA dK U).wp K U (fun v28 U =>
 ae K 123 [a0,v28] U (ag (fun dE U =>
 j a0 U) (aa R))) (aa R)) (aa R)) (aa R))) (aa R)) (
 (cj (some false) a2).wp K U (fun v31 U =>
 (ar .sub aM true v31 (.int .i64 2)).wp K U (fun eU U =>
 (aq (some (9,1)) (some [.str []]) 1 false [(0,(.str fy))]).wp K U (fun gn U =>
 ae K 231 [a0,gn] U (ag (fun gy U =>
 (eI false (some (3,1)) a2 none (some eU)).wp K U (fun mO U =>
 ae K 233 [a0,mO] U (ag (fun v40 U =>
 (aq (some (9,1)) (some [.str []]) 2 false [(0,(.str gd)),(1,(.str gX))]).wp K U (fun jF U =>
 ae K 231 [a0,jF] U (ag (fun js U =>
 (aG (some (3,1)) none a2 eU).wp K U (fun jt U =>
 (ah aA jt U).wp K U (fun sJ U =>
 ae K 123 [a0,sJ] U (ag (fun v49 U =>
 (aq (some (9,1)) (some [.str []]) 1 false [(0,(.str lS))]).wp K U (fun v51 U =>
 ae K 231 [a0,v51] U (ag (fun nO U =>
 (ar .add aM true eU (.int .i64 1)).wp K U (fun pd U =>
 (aG (some (3,1)) none a2 pd).wp K U (fun nP U =>
 (ah aA nP U).wp K U (fun nQ U =>
 ae K 123 [a0,nQ] U (ag (fun v59 U =>
 j a0 U) (aa R))) (aa R)) (aa R)) (aa R)) (aa R))) (aa R)) (aa R))) (aa R)) (aa R)) (aa R))) (aa R)) (aa R))) (aa R)) (aa R))) (aa R)) (aa R)) (aa R))) (aa R)) (aa R)) (aa R)) (aa R))) (aa R)) (aa R)) (aa R))) (aa R)) (aa R)) (aa R)) (aa R)) (aa R)) (aa R)) (aa R)) (aa R)) (aa R)
def OS:Prop :=
 ae K 206 [a0] U (ag (fun v4 U =>
 ai K (aH v4 false) (aD.val a0) (fun v6 =>
 ai K (aH v4 false) (ar .eql aM true v6 (.int .u8 8)) (fun v7 =>
 (bp v4 (.bool true) v7).wp K U (fun v8 U =>
 ak R v8 U) (aa R)))) (aa R))
def GO:Prop :=
 (dT a1).wp K U (fun v4 U =>
 (af (some 0) v4).wp K U (fun v20 U =>
 (ah aA v20 U).wp K U (fun v21 U =>
 (ar .eql aM true v21 (.int .u8 8)).wp K U (fun dS U =>
 av dS (
 (cj (some false) a2).wp K U (fun v24 U =>
 (ar .sub aM true v24 (.int .i64 1)).wp K U (fun eL U =>
 (aq (some (9,1)) (some [.str []]) 1 false [(0,(.str fy))]).wp K U (fun dK U =>
 ae K 231 [a0,dK] U (ag (fun v28 U =>
 (eI false (some (3,1)) a2 none (some eL)).wp K U (fun eU U =>
 ae K 233 [a0,eU] U (ag (fun eR U =>
 (aq (some (9,1)) (some [.str []]) 2 false [(0,(.str gd)),(1,(.str iq))]).wp K U (fun gy U =>
 ae K 231 [a0,gy] U (ag (fun gp U =>
 (aG (some (3,1)) none a2 eL).wp K U (fun v40 U =>
 (ah aA v40 U).wp K U (fun jE U =>
 ae K 123 [a0,jE] U (ag (fun jF U =>
 ak R (.aF []) U) (aa R))) (aa R)) (aa R)) (aa R))) (aa R)) (aa R))) (aa R)) (aa R))) (aa R)) (aa R)) (aa R)) (
 (af (some 0) v4).wp K U (fun mb U =>
 (ah aA mb U).wp K U (fun mc U =>
 (ar .eql aM true mc (.int .u8 6)).wp K U (fun v46 U =>
 ai K (aH v46 true) (af (some 2) v4) (fun sJ =>
 ai K (aH v46 true) (ah aA sJ U) (fun v49 =>
 ai K (aH v46 true) (ar .eql aM true v49 (.int .i64 1)) (fun ig =>
 (bp v46 ig (.bool false)).wp K U (fun v51 U =>
 av v51 (
 (aq (some (9,1)) (some [.str []]) 1 false [(0,(.str EH))]).wp K U (fun v53 U =>
 ae K 231 [a0,v53] U (ag (fun mP U =>
 ak R (.aF []) U) (aa R))) (aa R)) (
 (af (some 0) v4).wp K U (fun pd U =>
 (ah aA pd U).wp K U (fun nP U =>
 (ar .eql aM true nP (.int .u8 6)).wp K U (fun nQ U =>
 ai K (aH nQ true) (af (some 2) v4) (fun va =>
 ai K (aH nQ true) (ah aA va U) (fun ly =>
 ai K (aH nQ true) (ar .eql aM true ly (.int .i64 2)) (fun sK =>
 (bp nQ sK (.bool false)).wp K U (fun pW U =>
 av pW (
 (aq (some (9,1)) (some [.str []]) 1 false [(0,(.str B0))]).wp K U (fun pe U =>
 ae K 231 [a0,pe] U (ag (fun yr U =>
 ak R (.aF []) U) (aa R))) (aa R)) (
 (aD.tj).wp K U (fun v8 U =>
 (dp (some (.i,9)) v8 (.int .u8 6) (.str mQ) U).wp K U (fun _ U =>
 (dp (some (.i,9)) v8 (.int .u8 7) (.str nz) U).wp K U (fun _ U =>
 (af (some 0) v4).wp K U (fun v10 U =>
 (ah aA v10 U).wp K U (fun v11 U =>
 (dz (some (.i,9)) (some (.str [])) v8 v11 false U).wp K U (fun v12 U =>
 (aq (some (9,1)) (some [.str []]) 1 false [(0,v12)]).wp K U (fun cb U =>
 ae K 231 [a0,cb] U (ag (fun ct U =>
 (af (some 2) v4).wp K U (fun dc U =>
 (ah aA dc U).wp K U (fun cZ U =>
 ae K 234 [a0,cZ] U (ag (fun cm U =>
 ak R (.aF []) U) (aa R))) (aa R)) (aa R)) (aa R))) (aa R)) (aa R)) (aa R)) (aa R)) (aa R)) (aa R)) (aa R))) (aa R))))) (aa R)) (aa R)) (aa R))) (aa R))))) (aa R)) (aa R)) (aa R))) (aa R)) (aa R)) (aa R)) (aa R)
def GP:Prop :=
 (dT a1).wp K U (fun v4 U =>
 (af (some 0) v4).wp K U (fun v10 U =>
 (ah aA v10 U).wp K U (fun v11 U =>
 (ar .eql aM true v11 (.int .u8 19)).wp K U (fun v12 U =>
 av v12 (
 (aq (some (9,1)) (some [.str []]) 1 false [(0,(.str wx))]).wp K U (fun ct U =>
 ae K 231 [a0,ct] U (ag (fun bM U =>
 (aG (some (3,1)) none a2 (.int .i64 0)).wp K U (fun cm U =>
 (ah aA cm U).wp K U (fun cL U =>
 ae K 235 [a0,cL,(.int .i64 4)] U (ag (fun v20 U =>
 ak R (.aF []) U) (aa R))) (aa R)) (aa R)) (aa R))) (aa R)) (
 (af (some 0) v4).wp K U (fun dS U =>
 (ah aA dS U).wp K U (fun dZ U =>
 ae K 236 [a0,dZ] U (ag (fun v24 U =>
 jx 5 (fun v0 v2 n0 v6 v7 U =>
 (aG (some (3,1)) none v2 (.int .i64 0)).wp K U (fun eU U =>
 (ah aA eU U).wp K U (fun eR U =>
 ae K 235 [v0,eR,v7] U (ag (fun gy U =>
 (aY v0).wp K U (fun v37 U =>
 (af (some 2) v37).wp K U (fun iv U =>
 (ah aA iv U).wp K U (fun mO U =>
 (dz (some (.i,185)) (some .jq) mO v6 false U).wp K U (fun jE U =>
 (sF (some (.s,5)) jE).wp K U (fun jF U =>
 eP 5 [v0,v2,n0,v6,jF] U fun lp ji mE Lb nw yV U =>
 (qu yV U).wp K U (fun js U =>
 (aR js 0).wp K U (fun mb U =>
 av mb (
 (kY yV U).wp K U (fun mc U =>
 (aR mc 0).wp K U (fun v46 U =>
 (aR mc 1).wp K U (fun jt U =>
 (af (some 0) Lb).wp K U (fun v49 U =>
 (ah aA v49 U).wp K U (fun ig U =>
 (ar .eql aM false jt ig).wp K U (fun v51 U =>
 av v51 (
 (aq (some (9,1)) (some [.str []]) 1 false [(0,v46)]).wp K U (fun mP U =>
 ae K 231 [ji,mP] U (ag (fun mf U =>
 lp ji mE Lb nw yV U) (aa R))) (aa R)) (
 lp ji mE Lb nw yV U)) (aa R)) (aa R)) (aa R)) (aa R)) (aa R)) (aa R)) (
 (ar .eql aM true nw (.int .i64 8)).wp K U (fun nP U =>
 av nP (
 (af (some 2) Lb).wp K U (fun v59 U =>
 (ah aA v59 U).wp K U (fun va U =>
 ae K 234 [ji,va] U (ag (fun ly U =>
 ak R (.aF []) U) (aa R))) (aa R)) (aa R)) (
 (aG (some (3,1)) none mE (.int .i64 1)).wp K U (fun sL U =>
 (ah aA sL U).wp K U (fun pe U =>
 (ar .add aM true nw (.int .i64 1)).wp K U (fun rj U =>
 ae K 235 [ji,pe,rj] U (ag (fun tD U =>
 ak R (.aF []) U) (aa R))) (aa R)) (aa R)) (aa R))) (aa R))) (aa R)) (aa R)) (aa R)) (aa R)) (aa R)) (aa R)) (aa R)) (aa R))) (aa R)) (aa R)) fun j =>
 (ar .eql aM true v24 (.int .i64 5)).wp K U (fun dK U =>
 av dK (
 (ar .add aM true v24 (.int .i64 1)).wp K U (fun dE U =>
 j a0 a2 v4 v24 dE U) (aa R)) (
 j a0 a2 v4 v24 v24 U)) (aa R)) (aa R))) (aa R)) (aa R))) (aa R)) (aa R)) (aa R)) (aa R)
def qH:Prop :=
 (dT a1).wp K U (fun v4 U =>
 (af (some 0) v4).wp K U (fun v8 U =>
 (ah aA v8 U).wp K U (fun v9 U =>
 (ar .eql aM true v9 (.int .u8 9)).wp K U (fun v11 U =>
 av v11 (
 (aG (some (3,1)) none a2 (.int .i64 0)).wp K U (fun ct U =>
 (ah aA ct U).wp K U (fun bM U =>
 ae K 235 [a0,bM,(.int .i64 1)] U (ag (fun dc U =>
 (eI false (some (3,1)) a2 (some (.int .i64 1)) none).wp K U (fun cm U =>
 (cj (some false) cm).wp K U (fun cL U =>
 eP 4 [a0,cm,cL,(.int .i64 0)] U fun lp v0 Uk EC v20 U =>
 (ar .lss aM false v20 EC).wp K U (fun v21 U =>
 av v21 (
 (aG (some (3,1)) none Uk v20).wp K U (fun dS U =>
 (ah aA dS U).wp K U (fun dZ U =>
 (aq (some (3,1)) (some [.int .i64 0]) 1 false [(0,dZ)]).wp K U (fun fM U =>
 (aq (some (9,1)) (some [.str []]) 1 false [(0,(.str ff))]).wp K U (fun dK U =>
 ae K 237 [v0,fM,dK] U (ag (fun v28 U =>
 (ar .add aM true v20 (.int .i64 1)).wp K U (fun dE U =>
 lp v0 Uk EC dE U) (aa R)) (aa R))) (aa R)) (aa R)) (aa R)) (aa R)) (
 ak R (.aF []) U)) (aa R)) (aa R)) (aa R)) (aa R))) (aa R)) (aa R)) (
 (ar .eql aM true v9 (.int .u8 10)).wp K U (fun v31 U =>
 av v31 (
 (aq (some (9,1)) (some [.str []]) 3 false [(0,(.str uk)),(1,(.str pS)),(2,(.str fZ))]).wp K U (fun gn U =>
 ae K 237 [a0,a2,gn] U (ag (fun gy U =>
 ak R (.aF []) U) (aa R))) (aa R)) (
 (ar .eql aM true v9 (.int .u8 11)).wp K U (fun v37 U =>
 av v37 (
 (aq (some (9,1)) (some [.str []]) 2 false [(0,(.str lz)),(1,(.str uj))]).wp K U (fun v40 U =>
 ae K 237 [a0,a2,v40] U (ag (fun jE U =>
 ak R (.aF []) U) (aa R))) (aa R)) (
 (ar .eql aM true v9 (.int .u8 15)).wp K U (fun js U =>
 av js (
 (aq (some (9,1)) (some [.str []]) 2 false [(0,(.str kM)),(1,(.str fZ))]).wp K U (fun v46 U =>
 ae K 237 [a0,a2,v46] U (ag (fun jt U =>
 ak R (.aF []) U) (aa R))) (aa R)) (
 (ar .eql aM true v9 (.int .u8 12)).wp K U (fun v49 U =>
 av v49 (
 (aq (some (9,1)) (some [.str []]) 1 false [(0,(.str rM))]).wp K U (fun v51 U =>
 ae K 231 [a0,v51] U (ag (fun nO U =>
 (af (some 1) v4).wp K U (fun mP U =>
 (ah aA mP U).wp K U (fun mf U =>
 ae K 232 [a0,mf] U (ag (fun pd U =>
 (aq (some (9,1)) (some [.str []]) 1 false [(0,(.str gX))]).wp K U (fun nQ U =>
 ae K 231 [a0,nQ] U (ag (fun v59 U =>
 (af (some 2) v4).wp K U (fun ly U =>
 (ah aA ly U).wp K U (fun sK U =>
 ae K 234 [a0,sK] U (ag (fun pW U =>
 (aq (some (9,1)) (some [.str []]) 1 false [(0,(.str bX))]).wp K U (fun pe U =>
 ae K 231 [a0,pe] U (ag (fun yr U =>
 (af (some 3) v4).wp K U (fun tD U =>
 (ah aA tD U).wp K U (fun yu U =>
 ae K 234 [a0,yu] U (ag (fun v70 U =>
 (aq (some (9,1)) (some [.str []]) 1 false [(0,(.str lT))]).wp K U (fun D5 U =>
 ae K 237 [a0,a2,D5] U (ag (fun pg U =>
 ak R (.aF []) U) (aa R))) (aa R)) (aa R))) (aa R)) (aa R)) (aa R))) (aa R)) (aa R))) (aa R)) (aa R)) (aa R))) (aa R)) (aa R))) (aa R)) (aa R)) (aa R))) (aa R)) (
 (ar .eql aM true v9 (.int .u8 13)).wp K U (fun v76 U =>
 av v76 (
 (aq (some (9,1)) (some [.str []]) 1 false [(0,(.str nL))]).wp K U (fun zL U =>
 ae K 231 [a0,zL] U (ag (fun D6 U =>
 (af (some 1) v4).wp K U (fun Jg U =>
 (ah aA Jg U).wp K U (fun zM U =>
 ae K 232 [a0,zM] U (ag (fun Z2 U =>
 (aq (some (9,1)) (some [.str []]) 2 false [(0,(.str lT)),(1,(.str fZ))]).wp K U (fun oA U =>
 ae K 237 [a0,a2,oA] U (ag (fun v87 U =>
 ak R (.aF []) U) (aa R))) (aa R)) (aa R))) (aa R)) (aa R)) (aa R))) (aa R)) (
 (ar .eql aM true v9 (.int .u8 16)).wp K U (fun PZ U =>
 av PZ (
 (af (some 1) v4).wp K U (fun v91 U =>
 (ah aA v91 U).wp K U (fun P0 U =>
 ae K 232 [a0,P0] U (ag (fun v93 U =>
 (aq (some (9,1)) (some [.str []]) 1 false [(0,(.str bX))]).wp K U (fun Jh U =>
 ae K 237 [a0,a2,Jh] U (ag (fun Um U =>
 ak R (.aF []) U) (aa R))) (aa R)) (aa R))) (aa R)) (aa R)) (
 (ar .eql aM true v9 (.int .u8 14)).wp K U (fun P3 U =>
 av P3 (
 (aq (some (9,1)) (some [.str []]) 1 false [(0,(.str lU))]).wp K U (fun G9 U =>
 ae K 231 [a0,G9] U (ag (fun K6 U =>
 (af (some 1) v4).wp K U (fun Ha U =>
 (ah aA Ha U).wp K U (fun v105 U =>
 ae K 232 [a0,v105] U (ag (fun K7 U =>
 (aq (some (9,1)) (some [.str []]) 1 false [(0,(.str bX))]).wp K U (fun ad2 U =>
 ae K 231 [a0,ad2] U (ag (fun v109 U =>
 (af (some 2) v4).wp K U (fun Hc U =>
 (ah aA Hc U).wp K U (fun CR U =>
 ae K 234 [a0,CR] U (ag (fun ZK U =>
 (aq (some (9,1)) (some [.str []]) 1 false [(0,(.str lT))]).wp K U (fun He U =>
 ae K 237 [a0,a2,He] U (ag (fun v117 U =>
 ak R (.aF []) U) (aa R))) (aa R)) (aa R))) (aa R)) (aa R)) (aa R))) (aa R)) (aa R))) (aa R)) (aa R)) (aa R))) (aa R)) (
 ak R (.aF []) U)) (aa R))) (aa R))) (aa R))) (aa R))) (aa R))) (aa R))) (aa R))) (aa R)) (aa R)) (aa R)) (aa R)
def OU:Prop :=
 (ar .geq aM true a0 (.int .u8 9)).wp K U (fun v4 U =>
 ai K (aH v4 true) (aD.val a0) (fun v6 =>
 ai K (aH v4 true) (ar .leq aM true v6 (.int .u8 34)) (fun v7 =>
 (bp v4 v7 (.bool false)).wp K U (fun v8 U =>
 ak R v8 U) (aa R)))) (aa R)
def sH:Prop :=
 (dT a1).wp K U (fun v4 U =>
 (af (some 0) v4).wp K U (fun v6 U =>
 (ah aA v6 U).wp K U (fun v7 U =>
 (ar .eql aM true v7 (.int .u8 26)).wp K U (fun cZ U =>
 av cZ (
 (af (some 2) v4).wp K U (fun cL U =>
 (ah aA cL U).wp K U (fun v20 U =>
 ae K 234 [a0,v20] U (ag (fun v21 U =>
 ak R (.aF []) U) (aa R))) (aa R)) (aa R)) (
 (ar .eql aM true v7 (.int .u8 31)).wp K U (fun dZ U =>
 av dZ (
 (aq (some (9,1)) (some [.str []]) 1 false [(0,(.str mg))]).wp K U (fun eL U =>
 ae K 231 [a0,eL] U (ag (fun fM U =>
 (af (some 1) v4).wp K U (fun v28 U =>
 (ah aA v28 U).wp K U (fun dE U =>
 ae K 232 [a0,dE] U (ag (fun v30 U =>
 ak R (.aF []) U) (aa R))) (aa R)) (aa R)) (aa R))) (aa R)) (
 (ar .eql aM true v7 (.int .u8 32)).wp K U (fun eU U =>
 av eU (
 (aq (some (9,1)) (some [.str []]) 1 false [(0,(.str oK))]).wp K U (fun gn U =>
 ae K 231 [a0,gn] U (ag (fun gy U =>
 (af (some 1) v4).wp K U (fun v37 U =>
 (ah aA v37 U).wp K U (fun iv U =>
 ae K 232 [a0,iv] U (ag (fun mO U =>
 ak R (.aF []) U) (aa R))) (aa R)) (aa R)) (aa R))) (aa R)) (
 (ar .eql aM true v7 (.int .u8 33)).wp K U (fun jE U =>
 av jE (
 (af (some 1) v4).wp K U (fun js U =>
 (ah aA js U).wp K U (fun mb U =>
 ae K 232 [a0,mb] U (ag (fun mc U =>
 ak R (.aF []) U) (aa R))) (aa R)) (aa R)) (
 (ar .eql aM true v7 (.int .u8 34)).wp K U (fun jt U =>
 av jt (
 (af (some 1) v4).wp K U (fun v49 U =>
 (ah aA v49 U).wp K U (fun ig U =>
 ae K 232 [a0,ig] U (ag (fun v51 U =>
 (aq (some (9,1)) (some [.str []]) 1 false [(0,(.str fy))]).wp K U (fun v53 U =>
 ae K 231 [a0,v53] U (ag (fun mP U =>
 ae K 233 [a0,a2] U (ag (fun nP U =>
 (aq (some (9,1)) (some [.str []]) 1 false [(0,(.str gd))]).wp K U (fun v59 U =>
 ae K 231 [a0,v59] U (ag (fun va U =>
 ak R (.aF []) U) (aa R))) (aa R)) (aa R))) (aa R))) (aa R)) (aa R))) (aa R)) (aa R)) (
 (aD.tj).wp K U (fun v9 U =>
 (dp (some (.i,9)) v9 (.int .u8 27) (.str du) U).wp K U (fun _ U =>
 (dp (some (.i,9)) v9 (.int .u8 28) (.str dC) U).wp K U (fun _ U =>
 (dp (some (.i,9)) v9 (.int .u8 29) (.str fA) U).wp K U (fun _ U =>
 (dp (some (.i,9)) v9 (.int .u8 30) (.str gY) U).wp K U (fun _ U =>
 (af (some 0) v4).wp K U (fun v11 U =>
 (ah aA v11 U).wp K U (fun v12 U =>
 (dz (some (.i,9)) (some (.str [])) v9 v12 false U).wp K U (fun cb U =>
 (aq (some (9,1)) (some [.str []]) 1 false [(0,cb)]).wp K U (fun ct U =>
 ae K 231 [a0,ct] U (ag (fun bM U =>
 ak R (.aF []) U) (aa R))) (aa R)) (aa R)) (aa R)) (aa R)) (aa R)) (aa R)) (aa R)) (aa R)) (aa R))) (aa R))) (aa R))) (aa R))) (aa R))) (aa R)) (aa R)) (aa R)) (aa R)
def yk:Prop :=
 (dT a1).wp K U (fun v4 U =>
 (af (some 0) v4).wp K U (fun v7 U =>
 (ah aA v7 U).wp K U (fun v8 U =>
 (ar .eql aM true v8 (.int .u8 5)).wp K U (fun v10 U =>
 av v10 (
 (af (some 1) v4).wp K U (fun v12 U =>
 (ah aA v12 U).wp K U (fun cb U =>
 ae K 232 [a0,cb] U (ag (fun ct U =>
 (aq (some (9,1)) (some [.str []]) 1 false [(0,(.str gX))]).wp K U (fun dc U =>
 ae K 231 [a0,dc] U (ag (fun cZ U =>
 (aG (some (3,1)) none a2 (.int .i64 0)).wp K U (fun v20 U =>
 (ah aA v20 U).wp K U (fun v21 U =>
 ae K 123 [a0,v21] U (ag (fun dS U =>
 ak R (.aF []) U) (aa R))) (aa R)) (aa R)) (aa R))) (aa R)) (aa R))) (aa R)) (aa R)) (
 (ar .eql aM true v8 (.int .u8 37)).wp K U (fun v24 U =>
 av v24 (
 (af (some 1) v4).wp K U (fun fM U =>
 (ah aA fM U).wp K U (fun dK U =>
 ae K 232 [a0,dK] U (ag (fun v28 U =>
 ak R (.aF []) U) (aa R))) (aa R)) (aa R)) (
 (ar .eql aM true v8 (.int .u8 35)).wp K U (fun v30 U =>
 av v30 (
 (cj (some false) a2).wp K U (fun eU U =>
 (ar .sub aM true eU (.int .i64 1)).wp K U (fun eR U =>
 (aq (some (9,1)) (some [.str []]) 2 false [(0,(.str yx)),(1,(.str fy))]).wp K U (fun gy U =>
 ae K 231 [a0,gy] U (ag (fun gp U =>
 (eI false (some (3,1)) a2 none (some eR)).wp K U (fun v40 U =>
 ae K 233 [a0,v40] U (ag (fun jE U =>
 (eI false (some (3,1)) a2 (some eR) none).wp K U (fun mc U =>
 (aq (some (9,1)) (some [.str []]) 1 false [(0,(.str gd))]).wp K U (fun v46 U =>
 ae K 237 [a0,mc,v46] U (ag (fun jt U =>
 ak R (.aF []) U) (aa R))) (aa R)) (aa R)) (aa R))) (aa R)) (aa R))) (aa R)) (aa R)) (aa R)) (
 (ar .eql aM true v8 (.int .u8 36)).wp K U (fun v49 U =>
 av v49 (
 (aq (some (9,1)) (some [.str []]) 1 false [(0,(.str rL))]).wp K U (fun v51 U =>
 ae K 231 [a0,v51] U (ag (fun nO U =>
 (eI false (some (3,1)) a2 none (some (.int .i64 1))).wp K U (fun mf U =>
 (aq (some (9,1)) (some [.str []]) 1 false [(0,(.str yX))]).wp K U (fun pd U =>
 ae K 237 [a0,mf,pd] U (ag (fun nP U =>
 (aq (some (9,1)) (some [.str []]) 2 false [(0,(.str ff)),(1,(.str yZ))]).wp K U (fun v59 U =>
 ae K 231 [a0,v59] U (ag (fun va U =>
 (aG (some (3,1)) none a2 (.int .i64 1)).wp K U (fun pW U =>
 (ah aA pW U).wp K U (fun sL U =>
 ae K 123 [a0,sL] U (ag (fun pe U =>
 (eI false (some (3,1)) a2 (some (.int .i64 2)) none).wp K U (fun tD U =>
 (aq (some (9,1)) (some [.str []]) 1 false [(0,(.str wu))]).wp K U (fun yu U =>
 ae K 237 [a0,tD,yu] U (ag (fun v70 U =>
 (aq (some (9,1)) (some [.str []]) 1 false [(0,(.str tI))]).wp K U (fun v72 U =>
 ae K 231 [a0,v72] U (ag (fun D5 U =>
 ak R (.aF []) U) (aa R))) (aa R)) (aa R))) (aa R)) (aa R)) (aa R))) (aa R)) (aa R)) (aa R))) (aa R)) (aa R))) (aa R)) (aa R)) (aa R))) (aa R)) (
 ak R (.aF []) U)) (aa R))) (aa R))) (aa R))) (aa R)) (aa R)) (aa R)) (aa R)
def OW:Prop :=
 (dT a0).wp K U (fun v2 U =>
 (dT a1).wp K U (fun v3 U =>
 (af (some 0) v2).wp K U (fun v5 U =>
 (ah aA v5 U).wp K U (fun v6 U =>
 (ar .neq aM true v6 (.int .u8 4)).wp K U (fun v7 U =>
 ai K (aH v7 true) (af (some 0) v3) (fun v9 =>
 ai K (aH v7 true) (ah aA v9 U) (fun v10 =>
 ai K (aH v7 true) (ar .neq aM true v10 (.int .u8 4)) (fun v11 =>
 (bp v7 v11 (.bool false)).wp K U (fun v12 U =>
 av v12 (
 ak R (.bool true) U) (
 (af (some 1) v2).wp K U (fun cb U =>
 (ah aA cb U).wp K U (fun ct U =>
 (ar .eql aM true ct (.str gX)).wp K U (fun bM U =>
 ai K (aH bM true) (af (some 1) v3) (fun cZ =>
 ai K (aH bM true) (ah aA cZ U) (fun cm =>
 ai K (aH bM true) (ar .eql aM true cm (.str lS)) (fun cL =>
 (bp bM cL (.bool false)).wp K U (fun v20 U =>
 ak R v20 U) (aa R))))) (aa R)) (aa R)) (aa R))) (aa R))))) (aa R)) (aa R)) (aa R)) (aa R)) (aa R)
def OY:Prop :=
 ae K 190 [a0] U (ag (fun v6 U =>
 (aY a0).wp K U (fun v9 U =>
 (af (some 1) v9).wp K U (fun v10 U =>
 (ah aA v10 U).wp K U (fun v11 U =>
 (aq (some (5,1)) (some [.int .u8 0]) 1 false [(0,a1)]).wp K U (fun cb U =>
 (ez (some (5,1)) false v11 cb U).wp K U (fun ct U =>
 (aY a0).wp K U (fun bM U =>
 (af (some 1) bM).wp K U (fun dc U =>
 (aJ aA dc ct U).wp K U (fun _ U =>
 ak R .cJ U) (aa R)) (aa R)) (aa R)) (aa R)) (aa R)) (aa R)) (aa R)) (aa R)) (aa R))
def O0:Prop :=
 (ar .eql aM true a0 (.int .u8 6)).wp K U (fun v4 U =>
 ai K (aH v4 false) (aD.val a0) (fun v6 =>
 ai K (aH v4 false) (ar .eql aM true v6 (.int .u8 7)) (fun v7 =>
 (bp v4 (.bool true) v7).wp K U (fun v8 U =>
 ak R v8 U) (aa R)))) (aa R)
def O5:Prop :=
 ae K 185 [a0] U (ag (fun v4 U =>
 ai K (aH v4 false) (aD.val a0) (fun v6 =>
 ai K (aH v4 false) (ar .eql aM true v6 (.int .u8 35)) (fun v7 =>
 (bp v4 (.bool true) v7).wp K U (fun v8 U =>
 ai K (aH v8 false) (aD.val a0) (fun v10 =>
 ai K (aH v8 false) (ar .eql aM true v10 (.int .u8 36)) (fun v11 =>
 (bp v8 (.bool true) v11).wp K U (fun v12 U =>
 ak R v12 U) (aa R)))) (aa R)))) (aa R))
def O7:Prop :=
 ae K 33 [a0] U (ag (fun v8 U =>
 (aR v8 0).wp K U (fun v9 U =>
 (aR v8 1).wp K U (fun v10 U =>
 (aR v8 2).wp K U (fun v11 U =>
 (ar .eql aM true v11 (.int .i64 0)).wp K U (fun cb U =>
 ai K (aH cb true) (aD.val v9) (fun bM =>
 ai K (aH cb true) (cj (some false) bM) (fun dc =>
 ai K (aH cb true) (ar .eql aM true dc (.int .i64 1)) (fun cZ =>
 (bp cb cZ (.bool false)).wp K U (fun cm U =>
 ai K (aH cm true) (aD.val v9) (fun v20 =>
 ai K (aH cm true) (aG (some (51,3)) none v20 (.int .i64 0)) (fun v21 =>
 ai K (aH cm true) (af (some 0) v21) (fun dS =>
 ai K (aH cm true) (ah aA dS U) (fun dZ =>
 ai K (aH cm true) (ar .eql aM true dZ (.int .u8 1)) (fun v24 =>
 (bp cm v24 (.bool false)).wp K U (fun eL U =>
 ai K (aH eL true) (aD.val v9) (fun dK =>
 ai K (aH eL true) (aG (some (51,3)) none dK (.int .i64 0)) (fun v28 =>
 ai K (aH eL true) (af (some 1) v28) (fun dE =>
 ai K (aH eL true) (ah aA dE U) (fun v30 =>
 ai K (aH eL true) (aD.val a0) (fun v31 =>
 ai K (aH eL true) (ar .eql aM false v30 v31) (fun eU =>
 (bp eL eU (.bool false)).wp K U (fun eR U =>
 ak R eR U) (aa R)))))))) (aa R))))))) (aa R))))) (aa R)) (aa R)) (aa R)) (aa R)) (aa R))
def O9:Prop :=
 (cj (some false) a1).wp K U (fun v12 U =>
 eP 5 [a0,a1,a1,v12,(.int .i64 0)] U fun lp v0 v1 v11 EB cb U =>
 (ar .lss aM false cb EB).wp K U (fun ct U =>
 av ct (
 (aG (some (200,3)) none v11 cb).wp K U (fun dc U =>
 (ah (some (true,3)) dc U).wp K U (fun cZ U =>
 (aD.cP [.dj,.int .i64 0,.int .i64 0]).wp K U (fun v6 U =>
 (aJ (some (true,3)) v6 cZ U).wp K U (fun _ U =>
 (ar .add aM true cb (.int .i64 1)).wp K U (fun v20 U =>
 (eI false (some (200,3)) v1 (some v20) none).wp K U (fun v21 U =>
 (cj (some false) v21).wp K U (fun dS U =>
 eP 10 [v0,v1,v6,(.int .i64 0),v11,EB,cb,v21,dS,(.int .i64 0)] U fun Rr ji jU nw v7 BR Ug tC ED Ul dZ U =>
 (ar .lss aM false dZ Ul).wp K U (fun v24 U =>
 av v24 (
 (aG (some (200,3)) none ED dZ).wp K U (fun eL U =>
 (ah (some (true,3)) eL U).wp K U (fun fM U =>
 (aD.cP [.dj,.int .i64 0,.int .i64 0]).wp K U (fun v9 U =>
 (aJ (some (true,3)) v9 fM U).wp K U (fun _ U =>
 (af (some 1) v9).wp K U (fun v28 U =>
 (ah aA v28 U).wp K U (fun dE U =>
 (ar .add aM false v7 dE).wp K U (fun v30 U =>
 (ar .add aM true dZ (.int .i64 1)).wp K U (fun v31 U =>
 Rr ji jU nw v30 BR Ug tC ED Ul v31 U) (aa R)) (aa R)) (aa R)) (aa R)) (aa R)) (aa R)) (aa R)) (aa R)) (
 eP 8 [ji,jU,nw,v7,(.int .i64 0),BR,Ug,tC] U fun adH K4 pP Lf jV v10 Ue Uh BS U =>
 jx 9 (fun ZJ ZZ Z1 Sw K8 Uf Ui Uj nO U =>
 av nO (
 (ar .add aM true K8 (.int .i64 1)).wp K U (fun mP U =>
 adH ZJ ZZ Z1 Sw mP Uf Ui Uj U) (aa R)) (
 (af (some 1) Z1).wp K U (fun pd U =>
 (ah aA pd U).wp K U (fun nP U =>
 (ar .lss aM false K8 nP).wp K U (fun nQ U =>
 av nQ (
 ak R (.bool false) U) (
 (eI false (some (5,1)) ZJ (some K8) none).wp K U (fun ly U =>
 (ar .add aM true Uj (.int .i64 1)).wp K U (fun sK U =>
 lp ly ZZ Uf Ui sK U) (aa R)) (aa R))) (aa R)) (aa R)) (aa R))) fun j =>
 (fun ao:St =>
 ax K (cj (some false) K4) (fun gn =>
 ax K (ar .sub aM false gn jV) (fun gp =>
 ax K (ar .lss aM false v10 gp) (fun v37 =>
 ai K (aH v37 true) (aD.val v10) (fun mO =>
 ai K (aH v37 true) (af (some 2) Lf) (fun v40 =>
 ai K (aH v37 true) (ah aA v40 ao) (fun jE =>
 ai K (aH v37 true) (ar .lss aM false mO jE) (fun jF =>
 ax K (bp v37 jF (.bool false)) (fun js =>
 ai K (aH js true) (af (some 0) Lf) (fun mc =>
 ai K (aH js true) (ah aA mc ao) (fun v46 =>
 ai K (aH js true) (aD.val K4) (fun jt =>
 ai K (aH js true) (aD.val v10) (fun sJ =>
 ai K (aH js true) (aG (some (5,1)) none jt sJ) (fun v49 =>
 ai K (aH js true) (ah aA v49 ao) (fun ig =>
 av (aH js true) (
 (gr K.P v46 [ig]).wp K U (fun v51 U=>cg ((cM v49++[])++((cM mc++[])++((cM v40++[])++[]))) ao U /\
 ax K (bp js v51 (.bool false)) (fun Lc =>
 j K4 pP Lf jV v10 Ue Uh BS Lc U)) (aa R)) (
 ax K (bp js (.aF []) (.bool false)) (fun ab3 =>
 j K4 pP Lf jV v10 Ue Uh BS ab3 U))))))))))))))))) U)) (aa R)) (aa R)) (aa R)) (aa R)) (aa R)) (aa R)) (aa R)) (aa R)) (
 (cj (some false) v0).wp K U (fun sL U =>
 (ar .eql aM true sL (.int .i64 0)).wp K U (fun pe U =>
 ak R pe U) (aa R)) (aa R))) (aa R)) (aa R)
def GQ:Prop :=
 (cj (some false) a0).wp K U (fun v7 U =>
 eP 4 [a0,a1,v7,(.int .i64 0)] U fun lp v0 v1 jV v8 U =>
 (ar .lss aM false v8 jV).wp K U (fun v9 U =>
 av v9 (
 (aG (some (3,1)) none v0 v8).wp K U (fun ct U =>
 (ah aA ct U).wp K U (fun bM U =>
 (gr K.P v1 [bM]).wp K U (fun dc U =>
 av dc (
 ak R v8 U) (
 (ar .add aM true v8 (.int .i64 1)).wp K U (fun cm U =>
 lp v0 v1 jV cm U) (aa R))) (aa R)) (aa R)) (aa R)) (
 ak R (.int .i64 (-1)) U)) (aa R)) (aa R)
def Zp:Prop :=
 ae K 243 [a0,a1] U (ag (fun v10 U =>
 (ar .geq aM true v10 (.int .i64 0)).wp K U (fun v12 U =>
 av v12 (
 (fun ao:St =>
 ax K (eI true none a0 none (some v10)) (fun bM =>
 ax K (cj (some true) a1) (fun cL =>
 ax K (ar .add aM false v10 cL) (fun v20 =>
 ax K (eI true none a0 (some v20) none) (fun v21 =>
 ak R (.aF [bM,v21,(.bool true)]) U))))) U) (
 ak R (.aF [a0,(.str w_),(.bool false)]) U)) (aa R)) (aa R))
def Zq:Prop :=
 ae K 246 [a0,a1] U (ag (fun v7 U =>
 (ar .geq aM true v7 (.int .i64 0)).wp K U (fun v8 U =>
 ak R v8 U) (aa R)) (aa R))
def Pc:Prop :=
 (ar .eql aM true a0 (.int .u8 32)).wp K U (fun v5 U =>
 ai K (aH v5 false) (aD.val a0) (fun v7 =>
 ai K (aH v5 false) (ar .eql aM true v7 (.int .u8 10)) (fun v8 =>
 (bp v5 (.bool true) v8).wp K U (fun v9 U =>
 av v9 (
 ak R (.int .i64 1) U) (
 (ar .lss aM true a0 (.int .u8 32)).wp K U (fun v12 U =>
 ai K (aH v12 false) (aD.val a0) (fun ct =>
 ai K (aH v12 false) (ar .gtr aM true ct (.int .u8 126)) (fun bM =>
 (bp v12 (.bool true) bM).wp K U (fun dc U =>
 av dc (
 ak R (.int .i64 0) U) (
 (ar .geq aM true a0 (.int .u8 48)).wp K U (fun cL U =>
 ai K (aH cL true) (aD.val a0) (fun v21 =>
 ai K (aH cL true) (ar .leq aM true v21 (.int .u8 57)) (fun dS =>
 (bp cL dS (.bool false)).wp K U (fun dZ U =>
 av dZ (
 ak R (.int .i64 2) U) (
 (ar .geq aM true a0 (.int .u8 97)).wp K U (fun fM U =>
 ai K (aH fM true) (aD.val a0) (fun v28 =>
 ai K (aH fM true) (ar .leq aM true v28 (.int .u8 122)) (fun dE =>
 (bp fM dE (.bool false)).wp K U (fun v30 U =>
 av v30 (
 ak R (.int .i64 3) U) (
 (ar .geq aM true a0 (.int .u8 65)).wp K U (fun eR U =>
 ai K (aH eR true) (aD.val a0) (fun gy =>
 ai K (aH eR true) (ar .leq aM true gy (.int .u8 90)) (fun gp =>
 (bp eR gp (.bool false)).wp K U (fun v37 U =>
 av v37 (
 ak R (.int .i64 4) U) (
 ak R (.int .i64 5) U)) (aa R)))) (aa R))) (aa R)))) (aa R))) (aa R)))) (aa R))) (aa R)))) (aa R))) (aa R)))) (aa R)
def Pe:Prop :=
 (ar .eql aM true a1 (.int .i64 9)).wp K U (fun v12 U =>
 av v12 (
 ae K 252 [a0] U (ag (fun ct U =>
 ak R ct U) (aa R))) (
 (ar .eql aM true a1 (.int .i64 4)).wp K U (fun dc U =>
 av dc (
 ae K 99 [a0,(.int .u8 19)] U (ag (fun cm U =>
 ae K 100 [a0,(.str wx)] U (ag (fun v20 U =>
 av v20 (
 ae K 219 [a0,(.int .i64 4)] U (ag (fun dZ U =>
 (aq (some (87,1)) (some [.aV]) 1 false [(0,dZ)]).wp K U (fun v24 U =>
 ae K 103 [cm,v24] U (ag (fun eL U =>
 ak R eL U) (aa R))) (aa R)) (aa R))) (
 (ar .add aM true a1 (.int .i64 1)).wp K U (fun v28 U =>
 ae K 219 [a0,v28] U (ag (fun dE U =>
 ak R dE U) (aa R))) (aa R))) (aa R))) (aa R))) (
 (ar .add aM true a1 (.int .i64 1)).wp K U (fun eU U =>
 ae K 219 [a0,eU] U (ag (fun eR U =>
 eP 3 [a0,a1,eR] U fun lp v0 v1 v6 U =>
 (fun ao:St =>
 ax K (aY v0) (fun gp =>
 ax K (af (some 3) gp) (fun v37 =>
 ax K (ah aA v37 ao) (fun iv =>
 ax K (dz (some (.i,185)) (some .jq) iv v1 false ao) (fun v40 =>
 ae K 253 [v0] U (ag (fun jF U=>cg ((cM iv++(cM v1++[]))++((cM v37++[])++[])) ao U /\
 (∀ b ∈ cM v40++(cM jF++[]),b ∈ (cM iv++(cM v1++[]))++((cM v37++[])++[])) /\
 ax K (dz (some (.s,5)) (some (.int .u8 0)) v40 jF true ao) (fun js =>
 ax K (aR js 0) (fun mb =>
 ax K (aR js 1) (fun mc =>
 (jC .not mc).wp K U (fun jt U =>
 av jt (
 ak R v6 U) (
 ae K 99 [v0,mb] U (ag (fun v51 U =>
 (aY v0).wp K U (fun v53 U =>
 (af (some 1) v53).wp K U (fun mP U =>
 (ah aA mP U).wp K U (fun mf U =>
 (ar .add aM true mf (.int .i64 1)).wp K U (fun pd U =>
 (aY v0).wp K U (fun nP U =>
 (af (some 1) nP).wp K U (fun nQ U =>
 (aJ aA nQ pd U).wp K U (fun _ U =>
 (ar .eql aM true v1 (.int .i64 8)).wp K U (fun va U =>
 av va (
 ae K 168 [v0] U (ag (fun pW U =>
 (aY v51).wp K U (fun sL U =>
 (af (some 0) sL).wp K U (fun pe U =>
 (af (some 2) pe).wp K U (fun yr U =>
 (aJ aA yr pW U).wp K U (fun _ U =>
 (aq (some (87,1)) (some [.aV]) 1 false [(0,v6)]).wp K U (fun yu U =>
 ae K 103 [v51,yu] U (ag (fun v70 U =>
 lp v0 v1 v70 U) (aa R))) (aa R)) (aa R)) (aa R)) (aa R)) (aa R)) (aa R))) (
 (ar .add aM true v1 (.int .i64 1)).wp K U (fun v75 U =>
 ae K 219 [v0,v75] U (ag (fun v76 U =>
 (aq (some (87,1)) (some [.aV]) 2 false [(0,v6),(1,v76)]).wp K U (fun zK U =>
 ae K 103 [v51,zK] U (ag (fun zL U =>
 (ar .eql aM true v1 (.int .i64 5)).wp K U (fun v80 U =>
 av v80 (
 ak R zL U) (
 lp v0 v1 zL U)) (aa R)) (aa R))) (aa R)) (aa R))) (aa R))) (aa R)) (aa R)) (aa R)) (aa R)) (aa R)) (aa R)) (aa R)) (aa R)) (aa R)))) (aa R))))) (aa R))))))) U) (aa R))) (aa R))) (aa R))) (aa R)
def Pg:Prop :=
 (cj (some false) a0).wp K U (fun v7 U =>
 eP 4 [a0,a1,v7,(.int .i64 0)] U fun lp v0 v1 jV v8 U =>
 (ar .lss aM false v8 jV).wp K U (fun v9 U =>
 av v9 (
 (aG (some (9,1)) none v0 v8).wp K U (fun ct U =>
 (ah aA ct U).wp K U (fun bM U =>
 (ar .eql aM false v1 bM).wp K U (fun dc U =>
 av dc (
 ak R v8 U) (
 (ar .add aM true v8 (.int .i64 1)).wp K U (fun cm U =>
 lp v0 v1 jV cm U) (aa R))) (aa R)) (aa R)) (aa R)) (
 ak R (.int .i64 (-1)) U)) (aa R)) (aa R)
def Pj:Prop :=
 (cj (some false) a1).wp K U (fun v8 U =>
 eP 4 [a0,a1,v8,(.int .i64 0)] U fun lp v0 v7 nx v9 U =>
 (ar .lss aM false v9 nx).wp K U (fun v10 U =>
 av v10 (
 (aG (some (9,1)) none v7 v9).wp K U (fun v11 U =>
 (ah aA v11 U).wp K U (fun v12 U =>
 jx 6 (fun ji v5 v6 jV ad9 ke U =>
 (aY ji).wp K U (fun dZ U =>
 (af (some 1) dZ).wp K U (fun v24 U =>
 (ah aA v24 U).wp K U (fun eL U =>
 (eh (some [(0,1),(1,1),(2,1)]) (some [.int .u8 0,.str [],.int .i64 0]) none [(0,v6),(1,v5)]).wp K U (fun v28 U =>
 (aq (some (51,3)) (some [.int .u8 0,.str [],.int .i64 0]) 1 false [(0,v28)]).wp K U (fun dE U =>
 (ez (some (51,3)) false eL dE U).wp K U (fun v30 U =>
 (aY ji).wp K U (fun v31 U =>
 (af (some 1) v31).wp K U (fun eU U =>
 (aJ aA eU v30 U).wp K U (fun _ U =>
 (ar .add aM true ke (.int .i64 1)).wp K U (fun eR U =>
 lp ji jV ad9 eR U) (aa R)) (aa R)) (aa R)) (aa R)) (aa R)) (aa R)) (aa R)) (aa R)) (aa R)) (aa R)) fun j =>
 (gj true none none v12 (.int .i64 0)).wp K U (fun ct U =>
 (ar .geq aM true ct (.int .u8 97)).wp K U (fun bM U =>
 ai K (aH bM true) (aD.val v12) (fun cZ =>
 ai K (aH bM true) (gj true none none cZ (.int .i64 0)) (fun cm =>
 ai K (aH bM true) (ar .leq aM true cm (.int .u8 122)) (fun cL =>
 (bp bM cL (.bool false)).wp K U (fun v20 U =>
 av v20 (
 j v0 v12 (.int .u8 3) v7 nx v9 U) (
 j v0 v12 (.int .u8 4) v7 nx v9 U)) (aa R))))) (aa R)) (aa R)) (aa R)) (aa R)) (
 ak R (.aF []) U)) (aa R)) (aa R)
def Pm:Prop :=
 (aY a0).wp K U (fun v6 U =>
 (af (some 1) v6).wp K U (fun v7 U =>
 (ah aA v7 U).wp K U (fun v8 U =>
 (eh (some [(0,1),(1,1),(2,1)]) (some [.int .u8 0,.str [],.int .i64 0]) none [(0,(.int .u8 1)),(1,a1)]).wp K U (fun v10 U =>
 (aq (some (51,3)) (some [.int .u8 0,.str [],.int .i64 0]) 1 false [(0,v10)]).wp K U (fun v11 U =>
 (ez (some (51,3)) false v8 v11 U).wp K U (fun v12 U =>
 (aY a0).wp K U (fun cb U =>
 (af (some 1) cb).wp K U (fun ct U =>
 (aJ aA ct v12 U).wp K U (fun _ U =>
 ak R (.aF []) U) (aa R)) (aa R)) (aa R)) (aa R)) (aa R)) (aa R)) (aa R)) (aa R)) (aa R)
def Po:Prop :=
 (cj (some false) a1).wp K U (fun v7 U =>
 eP 4 [a0,a1,v7,(.int .i64 0)] U fun lp v0 v6 jV v8 U =>
 (ar .lss aM false v8 jV).wp K U (fun v9 U =>
 av v9 (
 (aG (some (3,1)) none v6 v8).wp K U (fun v11 U =>
 (ah aA v11 U).wp K U (fun v12 U =>
 jx 5 (fun ji v5 nw Sw nx U =>
 ae K 123 [ji,v5] U (ag (fun v20 U =>
 (ar .add aM true nx (.int .i64 1)).wp K U (fun v21 U =>
 lp ji nw Sw v21 U) (aa R)) (aa R))) fun j =>
 (ar .gtr aM true v8 (.int .i64 0)).wp K U (fun ct U =>
 av ct (
 (aq (some (9,1)) (some [.str []]) 1 false [(0,(.str fG))]).wp K U (fun dc U =>
 ae K 231 [v0,dc] U (ag (fun cZ U =>
 j v0 v12 v6 jV v8 U) (aa R))) (aa R)) (
 j v0 v12 v6 jV v8 U)) (aa R)) (aa R)) (aa R)) (
 ak R (.aF []) U)) (aa R)) (aa R)
def Pq:Prop :=
 (fun ao:St =>
 ax K (aY a0) (fun v6 =>
 ax K (af (some 1) v6) (fun v7 =>
 ax K (ah aA v7 ao) (fun v8 =>
 ax K (aD.enter 257 [a1]) (fun v10 =>
 ax K (eh (some [(0,1),(1,1),(2,1)]) (some [.int .u8 0,.str [],.int .i64 0]) none [(0,(.int .u8 2)),(1,v10)]) (fun v11 =>
 ax K (aq (some (51,3)) (some [.int .u8 0,.str [],.int .i64 0]) 1 false [(0,v11)]) (fun v12 =>
 (ez (some (51,3)) false v8 v12 U).wp K U (fun cb U=>cg ((cM v7++[])++[]) ao U /\
 ax K (aY a0) (fun ct =>
 ax K (af (some 1) ct) (fun bM =>
 (aJ aA bM cb U).wp K U (fun _ U =>
 ak R (.aF []) U) (aa R)))) (aa R)))))))) U
def Ps:Prop :=
 (aY a0).wp K U (fun v8 U =>
 (af (some 0) v8).wp K U (fun v9 U =>
 (af (some 0) v9).wp K U (fun v10 U =>
 (af (some 0) v10).wp K U (fun v11 U =>
 (ah aA v11 U).wp K U (fun v12 U =>
 (aG (some (43,6)) none v12 a1).wp K U (fun ct U =>
 (af (some 0) ct).wp K U (fun bM U =>
 (ah aA bM U).wp K U (fun dc U =>
 ae K 236 [a0,dc] U (ag (fun cZ U =>
 (ar .geq aM false cZ a2).wp K U (fun cL U =>
 av cL (
 ae K 123 [a0,a1] U (ag (fun dS U =>
 ak R (.aF []) U) (aa R))) (
 (aq (some (9,1)) (some [.str []]) 1 false [(0,(.str fy))]).wp K U (fun v24 U =>
 ae K 231 [a0,v24] U (ag (fun eL U =>
 ae K 123 [a0,a1] U (ag (fun v28 U =>
 (aq (some (9,1)) (some [.str []]) 1 false [(0,(.str gd))]).wp K U (fun v30 U =>
 ae K 231 [a0,v30] U (ag (fun v31 U =>
 ak R (.aF []) U) (aa R))) (aa R)) (aa R))) (aa R))) (aa R))) (aa R)) (aa R))) (aa R)) (aa R)) (aa R)) (aa R)) (aa R)) (aa R)) (aa R)) (aa R)
def Pv:Prop :=
 (aY a0).wp K U (fun v10 U =>
 (af (some 2) v10).wp K U (fun v11 U =>
 (ah aA v11 U).wp K U (fun v12 U =>
 (sF (some (.i,185)) v12).wp K U (fun cb U =>
 eP 2 [a1,cb] U fun lp v1 tC U =>
 (qu tC U).wp K U (fun ct U =>
 (aR ct 0).wp K U (fun bM U =>
 av bM (
 (kY tC U).wp K U (fun dc U =>
 (aR dc 0).wp K U (fun cZ U =>
 (aR dc 1).wp K U (fun cm U =>
 (sF (some (.s,5)) cm).wp K U (fun v20 U =>
 eP 4 [v1,cZ,tC,v20] U fun Rr jU v5 BS BV U =>
 (qu BV U).wp K U (fun v21 U =>
 (aR v21 0).wp K U (fun dS U =>
 av dS (
 (kY BV U).wp K U (fun dZ U =>
 (aR dZ 1).wp K U (fun v24 U =>
 (ar .eql aM false v24 jU).wp K U (fun dK U =>
 av dK (
 ak R v5 U) (
 Rr jU v5 BS BV U)) (aa R)) (aa R)) (aa R)) (
 lp jU BS U)) (aa R)) (aa R)) (aa R)) (aa R)) (aa R)) (aa R)) (
 (ar .eql aM true v1 (.int .u8 9)).wp K U (fun v31 U =>
 av v31 (
 ak R (.int .i64 0) U) (
 (ar .eql aM true v1 (.int .u8 19)).wp K U (fun gn U =>
 av gn (
 ak R (.int .i64 4) U) (
 (ar .geq aM true v1 (.int .u8 10)).wp K U (fun v37 U =>
 ai K (aH v37 true) (aD.val v1) (fun mO =>
 ai K (aH v37 true) (ar .leq aM true mO (.int .u8 16)) (fun v40 =>
 (bp v37 v40 (.bool false)).wp K U (fun jE U =>
 av jE (
 ak R (.int .i64 1) U) (
 ak R (.int .i64 9) U)) (aa R)))) (aa R))) (aa R))) (aa R))) (aa R)) (aa R)) (aa R)) (aa R)) (aa R)) (aa R)
def Px:Prop :=
 (cj (some false) a1).wp K U (fun v9 U =>
 eP 5 [a0,a2,a1,v9,(.int .i64 0)] U fun lp v0 v2 v8 ke v10 U =>
 (ar .lss aM false v10 ke).wp K U (fun v11 U =>
 av v11 (
 (aG (some (3,1)) none v8 v10).wp K U (fun cb U =>
 (ah aA cb U).wp K U (fun ct U =>
 (aG (some (9,1)) none v2 v10).wp K U (fun cm U =>
 (ah aA cm U).wp K U (fun cL U =>
 (aq (some (9,1)) (some [.str []]) 1 false [(0,cL)]).wp K U (fun v20 U =>
 ae K 231 [v0,v20] U (ag (fun v21 U =>
 ae K 235 [v0,ct,(.int .i64 1)] U (ag (fun v24 U =>
 (ar .add aM true v10 (.int .i64 1)).wp K U (fun eL U =>
 lp v0 v2 v8 ke eL U) (aa R)) (aa R))) (aa R))) (aa R)) (aa R)) (aa R)) (aa R)) (aa R)) (
 ak R (.aF []) U)) (aa R)) (aa R)
def Pz:Prop :=
 (ah aA a1 U).wp K U (fun v5 U =>
 (ar .eql aM false a0 v5).wp K U (fun v6 U =>
 ak R v6 U) (aa R)) (aa R)
def PB:Prop :=
 (cj (some false) a0).wp K U (fun v7 U =>
 eP 4 [a0,a1,v7,(.int .i64 0)] U fun lp v0 v1 jV v8 U =>
 (ar .lss aM false v8 jV).wp K U (fun v9 U =>
 av v9 (
 (aG (some (178,1)) none v0 v8).wp K U (fun ct U =>
 (ah aA ct U).wp K U (fun bM U =>
 (ar .eql aM false v1 bM).wp K U (fun dc U =>
 av dc (
 ak R v8 U) (
 (ar .add aM true v8 (.int .i64 1)).wp K U (fun cm U =>
 lp v0 v1 jV cm U) (aa R))) (aa R)) (aa R)) (aa R)) (
 ak R (.int .i64 (-1)) U)) (aa R)) (aa R)
def PD:Prop :=
 (aD.tj).wp K U (fun v10 U =>
 (dp (some (.s,5)) v10 (.str du) (.int .u8 27) U).wp K U (fun _ U =>
 (dp (some (.s,5)) v10 (.str dC) (.int .u8 28) U).wp K U (fun _ U =>
 (dp (some (.s,5)) v10 (.str fA) (.int .u8 29) U).wp K U (fun _ U =>
 (dp (some (.s,5)) v10 (.str gY) (.int .u8 30) U).wp K U (fun _ U =>
 (dp (some (.s,5)) v10 (.str mg) (.int .u8 31) U).wp K U (fun _ U =>
 (dp (some (.s,5)) v10 (.str oK) (.int .u8 32) U).wp K U (fun _ U =>
 ae K 253 [a0] U (ag (fun bM U =>
 (dz (some (.s,5)) (some (.int .u8 0)) v10 bM true U).wp K U (fun dc U =>
 (aR dc 0).wp K U (fun cZ U =>
 (aR dc 1).wp K U (fun cm U =>
 av cm (
 ae K 99 [a0,cZ] U (ag (fun dS U =>
 (aY a0).wp K U (fun v24 U =>
 (af (some 1) v24).wp K U (fun eL U =>
 (ah aA eL U).wp K U (fun fM U =>
 (ar .add aM true fM (.int .i64 1)).wp K U (fun dK U =>
 (aY a0).wp K U (fun v28 U =>
 (af (some 1) v28).wp K U (fun dE U =>
 (aJ aA dE dK U).wp K U (fun _ U =>
 jx 1 (fun v6 U =>
 ak R v6 U) fun j =>
 (ar .eql aM true cZ (.int .u8 31)).wp K U (fun v31 U =>
 ai K (aH v31 false) (aD.val cZ) (fun eR =>
 ai K (aH v31 false) (ar .eql aM true eR (.int .u8 32)) (fun gn =>
 (bp v31 (.bool true) gn).wp K U (fun gy U =>
 av gy (
 ae K 101 [a0] U (ag (fun iv U =>
 (aY dS).wp K U (fun mO U =>
 (af (some 0) mO).wp K U (fun v40 U =>
 (af (some 1) v40).wp K U (fun jE U =>
 (aJ aA jE iv U).wp K U (fun _ U =>
 j dS U) (aa R)) (aa R)) (aa R)) (aa R)) (aa R))) (
 j dS U)) (aa R)))) (aa R)) (aa R)) (aa R)) (aa R)) (aa R)) (aa R)) (aa R)) (aa R)) (aa R))) (
 ae K 100 [a0,(.str fy)] U (ag (fun mb U =>
 av mb (
 ae K 109 [a0] U (ag (fun v46 U =>
 ae K 102 [a0,(.str gd)] U (ag (fun sJ U =>
 ak R v46 U) (aa R))) (aa R))) (
 ae K 167 [a0,(.int .i64 0)] U (ag (fun v51 U =>
 (sS (some (0,false,1)) v51).wp K U (fun nO U =>
 (ar .eql aM true nO (.int .u8 2)).wp K U (fun v53 U =>
 av v53 (
 ae K 99 [a0,(.int .u8 26)] U (ag (fun mf U =>
 ae K 168 [a0] U (ag (fun nQ U =>
 (aY mf).wp K U (fun v59 U =>
 (af (some 0) v59).wp K U (fun va U =>
 (af (some 2) va).wp K U (fun ly U =>
 (aJ aA ly nQ U).wp K U (fun _ U =>
 ak R mf U) (aa R)) (aa R)) (aa R)) (aa R)) (aa R))) (aa R))) (
 ae K 99 [a0,(.int .u8 33)] U (ag (fun sL U =>
 ae K 101 [a0] U (ag (fun rj U =>
 (aY sL).wp K U (fun tD U =>
 (af (some 0) tD).wp K U (fun yu U =>
 (af (some 1) yu).wp K U (fun v70 U =>
 (aJ aA v70 rj U).wp K U (fun _ U =>
 jx 1 (fun v9 U =>
 ak R v9 U) fun j_1 =>
 ae K 100 [a0,(.str fy)] U (ag (fun v72 U =>
 av v72 (
 (aY sL).wp K U (fun pg U =>
 (af (some 0) pg).wp K U (fun v75 U =>
 (af (some 0) v75).wp K U (fun v76 U =>
 (aJ aA v76 (.int .u8 34) U).wp K U (fun _ U =>
 ae K 106 [a0,sL,(.func (.func 269) [a0] [])] U (ag (fun Jg U =>
 ae K 102 [a0,(.str gd)] U (ag (fun Z2 U =>
 j_1 sL U) (aa R))) (aa R))) (aa R)) (aa R)) (aa R)) (aa R)) (
 j_1 sL U)) (aa R))) (aa R)) (aa R)) (aa R)) (aa R)) (aa R))) (aa R)))) (aa R)) (aa R)) (aa R)))) (aa R)))) (aa R)) (aa R)) (aa R)) (aa R))) (aa R)) (aa R)) (aa R)) (aa R)) (aa R)) (aa R)) (aa R)
def PF:Prop :=
 ae K 167 [a0,(.int .i64 0)] U (ag (fun v5 U =>
 (aD.cP [.int .u8 0,.str [],.int .i64 0]).wp K U (fun v3 U =>
 (aJ (some (true,3)) v3 v5 U).wp K U (fun _ U =>
 (af (some 0) v3).wp K U (fun v6 U =>
 (ah aA v6 U).wp K U (fun v7 U =>
 (ar .eql aM true v7 (.int .u8 3)).wp K U (fun v8 U =>
 ai K (aH v8 false) (af (some 0) v3) (fun v10 =>
 ai K (aH v8 false) (ah aA v10 U) (fun v11 =>
 ai K (aH v8 false) (ar .eql aM true v11 (.int .u8 4)) (fun v12 =>
 (bp v8 (.bool true) v12).wp K U (fun cb U =>
 av cb (
 (af (some 1) v3).wp K U (fun ct U =>
 (ah aA ct U).wp K U (fun bM U =>
 ak R bM U) (aa R)) (aa R)) (
 ak R (.str w_) U)) (aa R))))) (aa R)) (aa R)) (aa R)) (aa R)) (aa R)) (aa R))
def PH:Prop :=
 (aq (some (9,1)) (some [.str []]) 1 false [(0,(.str yx))]).wp K U (fun v7 U =>
 ae K 105 [a0,v7] U (ag (fun v8 U =>
 av v8 (
 ae K 99 [a0,(.int .u8 35)] U (ag (fun v10 U =>
 ae K 102 [a0,(.str yx)] U (ag (fun v12 U =>
 ae K 102 [a0,(.str fy)] U (ag (fun ct U =>
 ae K 106 [a0,v10,(.func (.func 278) [a0] [])] U (ag (fun cL U =>
 ae K 102 [a0,(.str gd)] U (ag (fun v21 U =>
 ae K 169 [a0] U (ag (fun v24 U =>
 (aq (some (87,1)) (some [.aV]) 1 false [(0,v24)]).wp K U (fun eL U =>
 ae K 103 [v10,eL] U (ag (fun fM U =>
 ak R fM U) (aa R))) (aa R)) (aa R))) (aa R))) (aa R))) (aa R))) (aa R))) (aa R))) (
 (aq (some (9,1)) (some [.str []]) 1 false [(0,(.str rL))]).wp K U (fun dE U =>
 ae K 105 [a0,dE] U (ag (fun v30 U =>
 av v30 (
 ae K 99 [a0,(.int .u8 36)] U (ag (fun eU U =>
 ae K 102 [a0,(.str rL)] U (ag (fun gn U =>
 ae K 102 [a0,(.str yX)] U (ag (fun gp U =>
 ae K 169 [a0] U (ag (fun mO U =>
 (aq (some (87,1)) (some [.aV]) 1 false [(0,mO)]).wp K U (fun v40 U =>
 ae K 103 [eU,v40] U (ag (fun jE U =>
 ae K 102 [a0,(.str ff)] U (ag (fun js U =>
 ae K 102 [a0,(.str yZ)] U (ag (fun mc U =>
 ae K 278 [a0] U (ag (fun sJ U =>
 (aq (some (87,1)) (some [.aV]) 1 false [(0,sJ)]).wp K U (fun v49 U =>
 ae K 103 [eU,v49] U (ag (fun ig U =>
 ae K 102 [a0,(.str wu)] U (ag (fun nO U =>
 ae K 169 [a0] U (ag (fun mf U =>
 (aq (some (87,1)) (some [.aV]) 1 false [(0,mf)]).wp K U (fun pd U =>
 ae K 103 [eU,pd] U (ag (fun nP U =>
 ae K 102 [a0,(.str tI)] U (ag (fun v59 U =>
 ak R eU U) (aa R))) (aa R))) (aa R)) (aa R))) (aa R))) (aa R))) (aa R)) (aa R))) (aa R))) (aa R))) (aa R))) (aa R)) (aa R))) (aa R))) (aa R))) (aa R))) (
 ae K 109 [a0] U (ag (fun sK U =>
 ak R sK U) (aa R)))) (aa R))) (aa R))) (aa R))) (aa R)
def PJ:Prop :=
 ae K 99 [a0,(.int .u8 37)] U (ag (fun v5 U =>
 ae K 101 [a0] U (ag (fun v8 U =>
 (aY v5).wp K U (fun v9 U =>
 (af (some 0) v9).wp K U (fun v10 U =>
 (af (some 1) v10).wp K U (fun v11 U =>
 (aJ aA v11 v8 U).wp K U (fun _ U =>
 ak R v5 U) (aa R)) (aa R)) (aa R)) (aa R)) (aa R))) (aa R))
end
section
variable {a0 a1 a2 a3 a4 a5 a6:AV} {R:cA->St->Prop} {U:St}
theorem Om (h:Ol a0 a1 R U):ae K 154 [a0,a1] U R:=bD Tryz.f154 Wh h
theorem DT (h:GN a0 a1 a2 a3 R U):ae K 155 [a0,a1,a2,a3] U R:=bD Tryz.f155 Wi h
theorem Oo (h:On a0 R U):ae K 156 [a0] U R:=bD Tryz.f156 Wj h
theorem Ot (h:Oq a0 R U):ae K 158 [a0] U R:=bD Tryz.f158 Wl h
theorem Ov (h:Ou a0 R U):ae K 159 [a0] U R:=bD Tryz.f159 Wm h
theorem Ox (h:Ow a0 R U):ae K 160 [a0] U R:=bD Tryz.f160 Wn h
theorem Oz (h:Oy a0 R U):ae K 161 [a0] U R:=bD Tryz.f161 Wo h
theorem OB (h:OA a0 R U):ae K 162 [a0] U R:=bD Tryz.f162 Wp h
theorem OD (h:OC a0 R U):ae K 163 [a0] U R:=bD Tryz.f163 Wq h
theorem OF (h:OE a0 R U):ae K 164 [a0] U R:=bD Tryz.f164 Wr h
theorem OG (h:Zl a0 a1 R U):ae K 165 [a0,a1] U R:=bD Tryz.f165 Ws h
theorem OH (h:Zm a0 R U):ae K 166 [a0] U R:=bD Tryz.f166 Wt h
theorem OJ (h:OI a0 a1 R U):ae K 167 [a0,a1] U R:=bD Tryz.f167 Wu h
theorem OK (h:Zn a0 R U):ae K 168 [a0] U R:=bD Tryz.f168 Wv h
theorem OM (h:OL a0 R U):ae K 169 [a0] U R:=bD Tryz.f169 Ww h
theorem ON (h:Zo a0 a1 R U):ae K 178 [a0,a1] U R:=bD Tryz.f178 Wx h
theorem OP (h:OO a0 R U):ae K 179 [a0] U R:=bD Tryz.f179 Wy h
theorem OR (h:OQ a0 a1 a2 R U):ae K 180 [a0,a1,a2] U R:=bD Tryz.f180 Wz h
theorem OT (h:OS a0 R U):ae K 181 [a0] U R:=bD Tryz.f181 WA h
theorem DU (h:GO a0 a1 a2 R U):ae K 182 [a0,a1,a2] U R:=bD Tryz.f182 WB h
theorem DV (h:GP a0 a1 a2 R U):ae K 183 [a0,a1,a2] U R:=bD Tryz.f183 WC h
theorem nu (h:qH a0 a1 a2 R U):ae K 184 [a0,a1,a2] U R:=bD Tryz.f184 WD h
theorem OV (h:OU a0 R U):ae K 185 [a0] U R:=bD Tryz.f185 WE h
theorem o9 (h:sH a0 a1 a2 R U):ae K 186 [a0,a1,a2] U R:=bD Tryz.f186 WG h
theorem tu (h:yk a0 a1 a2 R U):ae K 187 [a0,a1,a2] U R:=bD Tryz.f187 WH h
theorem OX (h:OW a0 a1 R U):ae K 188 [a0,a1] U R:=bD Tryz.f188 WI h
theorem OZ (h:OY a0 a1 R U):ae K 189 [a0,a1] U R:=bD Tryz.f189 WJ h
theorem O3 (h:O0 a0 R U):ae K 206 [a0] U R:=bD Tryz.f206 WK h
theorem O6 (h:O5 a0 R U):ae K 207 [a0] U R:=bD Tryz.f207 WL h
theorem O8 (h:O7 a0 R U):ae K 208 [a0] U R:=bD Tryz.f208 WM h
theorem Pa (h:O9 a0 a1 R U):ae K 209 [a0,a1] U R:=bD Tryz.f209 WN h
theorem DW (h:GQ a0 a1 R U):ae K 210 [a0,a1] U R:=bD Tryz.f210 WO h
theorem DX (h:Zp a0 a1 R U):ae K 212 [a0,a1] U R:=bD Tryz.f212 WQ h
theorem Pb (h:Zq a0 a1 R U):ae K 215 [a0,a1] U R:=bD Tryz.f215 WR h
theorem Pd (h:Pc a0 R U):ae K 216 [a0] U R:=bD Tryz.f216 WS h
theorem Pf (h:Pe a0 a1 R U):ae K 219 [a0,a1] U R:=bD Tryz.f219 WT h
theorem Ph (h:Pg a0 a1 R U):ae K 230 [a0,a1] U R:=bD Tryz.f230 WU h
theorem Pk (h:Pj a0 a1 R U):ae K 231 [a0,a1] U R:=bD Tryz.f231 WV h
theorem Pn (h:Pm a0 a1 R U):ae K 232 [a0,a1] U R:=bD Tryz.f232 WW h
theorem Pp (h:Po a0 a1 R U):ae K 233 [a0,a1] U R:=bD Tryz.f233 WX h
theorem Pr (h:Pq a0 a1 R U):ae K 234 [a0,a1] U R:=bD Tryz.f234 WY h
theorem Pu (h:Ps a0 a1 a2 R U):ae K 235 [a0,a1,a2] U R:=bD Tryz.f235 WZ h
theorem Pw (h:Pv a0 a1 R U):ae K 236 [a0,a1] U R:=bD Tryz.f236 W0 h
theorem Py (h:Px a0 a1 a2 R U):ae K 237 [a0,a1,a2] U R:=bD Tryz.f237 W1 h
theorem PA (h:Pz a0 a1 R U):ae K 242 [a0,a1] U R:=bD Tryz.f242 W2 h
theorem PC (h:PB a0 a1 R U):ae K 246 [a0,a1] U R:=bD Tryz.f246 W3 h
theorem PE (h:PD a0 R U):ae K 252 [a0] U R:=bD Tryz.f252 W4 h
theorem PG (h:PF a0 R U):ae K 253 [a0] U R:=bD Tryz.f253 W5 h
theorem PI (h:PH a0 R U):ae K 269 [a0] U R:=bD Tryz.f269 W6 h
theorem PK (h:PJ a0 R U):ae K 278 [a0] U R:=bD Tryz.f278 W7 h
end
end Go.Rip
