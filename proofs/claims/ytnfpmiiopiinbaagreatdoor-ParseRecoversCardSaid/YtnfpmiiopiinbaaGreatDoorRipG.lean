/- Lemmas for the proof: no conditions. -/
import Derived.Test.YtnfpmiiopiinbaaGreatDoorRipZz
import Derived.Test.YtnfpmiiopiinbaaGreatDoorRipD
set_option linter.unusedVariables false
set_option linter.unusedSimpArgs false
set_option linter.loopingSimpArgs false
set_option maxRecDepth 100000
namespace Go.Rip
open Go.Proofs
def Uo:An:=ai (aZ (ai (.bk (.rf eg (.bk eg)))) (ai .z))
def Up:An:=ai (.bk (.lp [0,2,3,5] (aZ (ai (.cd .z .z)) (aZ (.bk (ai (.cd .z .z))) eg))))
def Uq:An:=ai (ai (aZ (ai (.bk (.lp [0,3,8,9,10] (ai (aZ (.cd .z .z) (aZ (.bk (ai (ai eg))) eg)))))) (ai .z)))
def Ur:An:=ai (ai (aZ (ai (.bk (.lp [0,3,8,9,10] (ai (aZ (.cd .z .z) (aZ (.bk (ai (ai eg))) eg)))))) (ai .z)))
def Us:An:=ai (ai (ai (ai (ai (ai (ai (ai (ai (ai .z)))))))))
def Ut:An:=ai (ai (ai (ai (ai (ai (ai (ai .z)))))))
def Uu:An:=ai (ai (ai (ai (ai (ai .z)))))
def Uv:An:=ai (ai (ai (ai (ai (ai (ai (ai .z)))))))
def Uw:An:=ai (aZ (aZ (.rg [] [] (some ⟨[(true,0),(true,1),(true,2),(true,3),(true,4),(true,5),(true,6),(true,7),(true,8),(true,9)],[⟨8,1,0⟩,⟨16,8,1⟩,⟨32,16,2⟩,⟨64,32,4⟩,⟨128,1,0⟩,⟨256,128,16⟩,⟨512,256,32⟩,⟨1024,512,64⟩,⟨2048,1024,128⟩,⟨4096,2112,264⟩]⟩)) (.cd (aZ (.rg [] [] (some ⟨[(true,0),(true,1),(true,2),(true,3),(true,4),(true,5),(true,6),(true,7),(true,8),(true,9),(true,10),(true,11)],[⟨8192,1,0⟩,⟨16384,8192,1⟩,⟨32768,16384,2⟩,⟨65536,32768,4⟩,⟨131072,1,0⟩,⟨262144,131072,16⟩,⟨524288,262144,32⟩,⟨1048576,524288,64⟩,⟨2097152,1114112,136⟩,⟨4194304,2097152,256⟩,⟨8388608,4194304,512⟩,⟨4,8388608,2047⟩]⟩)) .z) .z)) (ai .z))
def Ux:An:=ai (ai (.sq (some [0,5]) (ai (.cd eg .z)) (ai (ai .z))))
def Uy:An:=eg
def Uz:An:=ai (aZ (aZ (.rg [] [] (some ⟨[(true,0),(true,1),(true,2),(true,3),(true,4),(true,5),(true,6),(true,7),(true,8),(true,9),(true,10),(true,11)],[⟨32,1,0⟩,⟨64,32,1⟩,⟨128,64,2⟩,⟨256,128,4⟩,⟨512,2,0⟩,⟨1024,768,24⟩,⟨2048,1,0⟩,⟨4096,2048,64⟩,⟨8192,4096,128⟩,⟨16384,8192,256⟩,⟨32768,16384,512⟩,⟨65536,33792,1056⟩]⟩)) (.cd (aZ (.rg [] [] (some ⟨[(true,0),(true,1),(true,2),(true,3),(true,4),(true,5),(true,6),(true,7),(true,8),(true,9),(true,10),(true,11),(false,12)],[⟨131072,1,0⟩,⟨262144,131072,1⟩,⟨524288,262144,2⟩,⟨1048576,524288,4⟩,⟨2097152,1,0⟩,⟨4194304,2097152,16⟩,⟨8388608,4194304,32⟩,⟨16777216,8388608,64⟩,⟨33554432,2,0⟩,⟨67108864,50331648,384⟩,⟨134217728,68157440,520⟩,⟨268435456,134217728,1024⟩,⟨0,268435472,4095⟩]⟩)) .z) .z)) (ai .z))
def UA:An:=ai (ai (.sq (some [3]) (ai (.cd eg .z)) (ai .z)))
def UB:An:=ai (ai (aZ (aZ (.rg [] [] (some ⟨[(true,0),(true,1),(true,2),(true,3),(true,4),(true,5),(true,6),(true,7),(true,8),(true,9),(true,10),(true,11)],[⟨1024,1,0⟩,⟨2048,1024,1⟩,⟨4096,2048,2⟩,⟨8192,4096,4⟩,⟨16384,8,0⟩,⟨32768,16384,16⟩,⟨65536,40960,40⟩,⟨512,65536,64⟩,⟨131072,512,128⟩,⟨262144,512,128⟩,⟨16,131072,511⟩,⟨32,262144,2047⟩]⟩)) (ai (.cd (ai .z) .z))) (aZ (.sq (some [0,36]) (.rg [] [121] none) (.cd (ai (ai (ai (ai .z)))) .z)) (ai .z))))
def UC:An:=ai (ai .z)
def UD:An:=ai (ai .z)
def UE:An:=ai (ai .z)
def UF:An:=ai (ai .z)
def UG:An:=ai (ai .z)
def UH:An:=ai (ai .z)
def UI:An:=ai (ai (ai .z))
def UJ:An:=ai (aZ (ai (.bk (.lp [0,1,11,12,13] (ai (aZ (.cd .z .z) (aZ (.bk (ai (ai (aZ (ai (.bk (.lp [0,1,6,7,11,12,13,21,22,23] (ai (aZ (.cd .z .z) (aZ (.bk (ai eg)) eg)))))) (ai (aZ (.bk (.lp [0,1,6,7,10,11,12,13] (aZ (.sq (some [0,1,6,7,10,11,12,13,52]) (.rg [] [] (some ⟨[(true,0),(true,1),(true,2),(true,3),(true,4),(true,5),(true,6),(true,7),(true,8),(true,9),(true,10),(true,11),(true,12),(true,13),(true,14),(true,15),(true,16),(true,17),(true,18),(false,19),(true,20)],[⟨4294967296,1024,0⟩,⟨8589934592,1,0⟩,⟨17179869184,8589934592,2⟩,⟨34359738368,128,0⟩,⟨68719476736,51539607552,12⟩,⟨137438953472,73014444032,17⟩,⟨274877906944,137438953472,32⟩,⟨549755813888,274877907968,64⟩,⟨1099511627776,274877907008,64⟩,⟨2199023255552,1374389534720,320⟩,⟨4398046511104,3023656976384,704⟩,⟨8796093022208,4672924418048,1088⟩,⟨17592186044416,8796093022208,2112⟩,⟨35184372088832,17592186044480,4096⟩,⟨70368744177664,52776558133248,12288⟩,⟨140737488355328,17592186044417,4096⟩,⟨281474976710656,17592186045440,4096⟩,⟨562949953421312,439804651110400,102400⟩,⟨1125899906842624,580542139465728,135168⟩,⟨2251799813685248,1213860837064704,282624⟩,⟨4503599627370496,2269391999729664,528384⟩]⟩)) (.cd .z .z)) (.bk eg)))) (aZ (ai (.cd (ai .z) .z)) eg))))))) eg)))))) (ai .z))
def UK:An:=ai (aZ (ai (.bk (.lp [0,1,7,8] (ai (aZ (.cd .z .z) (aZ (.bk (ai (ai (.cd (ai .z) .z)))) eg)))))) (ai .z))
def UL:An:=ai (aZ (ai (ai (.cd (aZ (.rg [] [] (some ⟨[(true,0),(true,1),(true,2),(true,3),(true,4),(true,5),(true,6),(true,7),(true,8),(true,9),(true,10),(true,11)],[⟨8192,1,0⟩,⟨16384,128,0⟩,⟨32768,24576,3⟩,⟨65536,1,0⟩,⟨131072,128,0⟩,⟨262144,2,0⟩,⟨524288,262144,32⟩,⟨1048576,655360,80⟩,⟨2097152,1114112,136⟩,⟨16,32768,7⟩,⟨32,2097152,1023⟩,⟨64,0,2047⟩]⟩)) .z) .z))) (ai .z))
def UM:An:=ai (ai .z)
def UN:An:=ai (aZ (.bk (ai (.cd (ai .z) (ai (.cd (ai .z) (ai (.cd (ai .z) (ai (.cd (ai .z) (ai (.cd (ai .z) .z))))))))))) (ai .z))
def UO:An:=ai (aZ (ai (.bk (ai (.cd (ai .z) (ai (.cd (aZ (ai (ai (.cd (ai .z) .z))) (ai .z)) .z)))))) (ai (.bk (.lp [0,1,6] (.bk (aZ (.rg [] [] (some ⟨[(true,0),(true,1),(true,2),(true,3),(true,4),(true,5),(true,6),(false,7),(true,8),(true,9),(true,10),(true,11),(true,12),(true,13)],[⟨34359738368,1,0⟩,⟨68719476736,34359738368,1⟩,⟨137438953472,68719476736,2⟩,⟨274877906944,137438953472,4⟩,⟨549755813888,2,0⟩,⟨1099511627776,824633720832,24⟩,⟨2199023255552,1,0⟩,⟨4398046511104,2199023255552,64⟩,⟨8796093022208,5497558138880,160⟩,⟨17179869184,8796093022208,256⟩,⟨17592186044416,17179869184,512⟩,⟨35184372088832,17179869184,512⟩,⟨128,17592186044416,2047⟩,⟨256,35184372088832,8191⟩]⟩)) (aZ (ai (.cd (ai .z) .z)) (ai (ai (aZ (ai (.cd (ai (ai .z)) .z)) (ai (ai (.cd (ai .z) .z)))))))))))))
def UP:An:=ai (aZ (ai (.bk (.lp [0,1,7,8] (ai (aZ (.cd .z .z) (aZ (.bk (ai (ai (.cd (ai .z) .z)))) eg)))))) (ai .z))
def UQ:An:=ai (aZ (ai (.bk (.lp [1,13] (ai (aZ (.cd .z .z) (.bk (ai (ai (.bk (.lp [1,5,13,20] (ai (aZ (.cd .z .z) (.bk (ai (ai (.cd (ai .z) .z)))))))))))))))) (aZ (.bk (ai (.cd (ai .z) (ai (.cd (ai .z) (ai (.cd (ai .z) .z))))))) (ai .z)))
def UR:An:=ai (ai .z)
def US:An:=ai (aZ (ai (.bk (.lp [0,1,7,8] (ai (aZ (.cd .z .z) (aZ (.bk (ai (ai (.cd (ai .z) .z)))) eg)))))) (ai .z))
def UT:An:=ai (ai (aZ (ai (ai (.cd (ai (ai (.sq (some [6]) (ai (.cd eg .z)) (ai .z)))) .z))) (aZ (ai (.cd (ai (ai (ai .z))) .z)) (aZ (ai (.cd (ai (ai (ai .z))) .z)) (ai (ai (.sq (some [9]) (ai (.cd (ai (ai eg)) .z)) (ai .z))))))))
def UU:An:=ai (aZ (ai (ai (.cd (ai .z) .z))) (ai .z))
def UW:An:=ai (aZ (.bk (ai (.cd (ai (ai (ai (ai (ai (ai .z)))))) (ai (.cd (ai (ai (ai (ai (ai (ai (ai (ai (ai (ai (ai .z))))))))))) .z))))) (ai .z))
def UX:An:=ai (ai (ai (ai .z)))
def Ki:An:=ai (ai (ai (aZ (.sq (some [2,5,20]) eg (.cd (ai .z) .z)) (ai .z))))
section
variable (a0 a1 a2 a3 a4 a5 a6:AV) (R:cM->St->Prop) (U:St)
def M6:Prop :=
 (fM a0).wp K U (λ v2 U =>
 rH K 1 a1 U (λ v7 q U =>
 q.mid (λ U =>
 (ar aH v2 U).wp K U (λ v8 U =>
 (aF (some (3,1)) (some [.int .i64 0]) 1 false [(0,v7)]).wp K U (λ v10 U =>
 (ek (some (3,1)) false v8 v10 U).wp K U (λ v11 U =>
 (aG aH v2 v11 U).wp K U (λ _ U =>
 q.n U) (λ _ _=>False)) (λ _ _=>False)) (λ _ _=>False)) (λ _ _=>False)) U) (λ U =>
 (ar aH v2 U).wp K U (λ v12 U =>
 aq R v12 U) (aa R)) (λ i U =>
 Hb (Nat.beq i 0) (
 (ar aH v2 U).wp K U (λ DE U =>
 aq R DE U) (aa R)) (
 False)) (λ U =>
 aq R .ag U) (λ x U=>(aa R) x U)) (aa R)
def M8:Prop :=
 (ar aH a1 U).wp K U (λ v6 U =>
 (aw .add aR true v6 (.int .i64 1)).wp K U (λ v7 U =>
 dT 4 [a0,a2,a3,v7] U λ lp v0 v2 v3 v5 U =>
 (ar aH v2 U).wp K U (λ v9 U =>
 (aw .lss aR false v5 v9).wp K U (λ v10 U =>
 af K (aB v10 true) (ah (some 0) v3) (λ v12 =>
 af K (aB v10 true) (ah (some 0) v12) (λ cF =>
 af K (aB v10 true) (ar aH cF U) (λ db =>
 af K (aB v10 true) (ay.val v5) (λ cR =>
 af K (aB v10 true) (aJ (some (43,6)) none db cR) (λ cO =>
 af K (aB v10 true) (ah (some 5) cO) (λ dL =>
 af K (aB v10 true) (ar aH dL U) (λ cC =>
 af K (aB v10 true) (aw .gtr aR true cC (.int .i64 0)) (λ dt =>
 (bu v10 dt (.bool false)).wp K U (λ v20 U =>
 aA v20 (
 (gi K.P v0 [v5]).wp K U (λ jz U =>
 (ig .not jz).wp K U (λ fU U =>
 aA fU (
 aq R (.aQ []) U) (
 (ah (some 0) v3).wp K U (λ dy U =>
 (ah (some 0) dy).wp K U (λ ee U =>
 (ar aH ee U).wp K U (λ v24 U =>
 (aJ (some (43,6)) none v24 v5).wp K U (λ eC U =>
 (ah (some 5) eC).wp K U (λ dM U =>
 (ar aH dM U).wp K U (λ v28 U =>
 (aw .add aR false v5 v28).wp K U (λ et U =>
 lp v0 v2 v3 et U) (aa R)) (aa R)) (aa R)) (aa R)) (aa R)) (aa R)) (aa R))) (aa R)) (aa R)) (
 aq R (.aQ []) U)) (aa R)))))))))) (aa R)) (aa R)) (aa R)) (aa R)
def Na:Prop :=
 ae K 99 [a0,(.int .u8 10)] U (aj (λ v7 U =>
 (aF (some (9,1)) (some [.str []]) 3 false [(0,(.str zC)),(1,(.str xA)),(2,(.str mC))]).wp K U (λ v8 U =>
 (bR (some false) v8).wp K U (λ v9 U =>
 dT 5 [a0,v7,v8,v9,(.int .i64 0)] U λ lp v0 v3 o0 mA v10 U =>
 (aw .lss aR false v10 mA).wp K U (λ v11 U =>
 aA v11 (
 (aJ (some (9,1)) none o0 v10).wp K U (λ v12 U =>
 (ar aH v12 U).wp K U (λ cF U =>
 ae K 102 [v0,cF] U (aj (λ cO U =>
 ae K 169 [v0] U (aj (λ dt U =>
 (aF (some (87,1)) (some [.aU]) 1 false [(0,dt)]).wp K U (λ v20 U =>
 ae K 103 [v3,v20] U (aj (λ v21 U =>
 (aw .add aR true v10 (.int .i64 1)).wp K U (λ dy U =>
 lp v0 v3 o0 mA dy U) (aa R)) (aa R))) (aa R)) (aa R))) (aa R))) (aa R)) (aa R)) (
 aq R v3 U)) (aa R)) (aa R)) (aa R)) (aa R))
def Nc:Prop :=
 ae K 99 [a0,(.int .u8 11)] U (aj (λ v7 U =>
 (aF (some (9,1)) (some [.str []]) 2 false [(0,(.str pA)),(1,(.str Ga))]).wp K U (λ v8 U =>
 (bR (some false) v8).wp K U (λ v9 U =>
 dT 5 [a0,v7,v8,v9,(.int .i64 0)] U λ lp v0 v3 o0 mA v10 U =>
 (aw .lss aR false v10 mA).wp K U (λ v11 U =>
 aA v11 (
 (aJ (some (9,1)) none o0 v10).wp K U (λ v12 U =>
 (ar aH v12 U).wp K U (λ cF U =>
 ae K 102 [v0,cF] U (aj (λ cO U =>
 ae K 169 [v0] U (aj (λ dt U =>
 (aF (some (87,1)) (some [.aU]) 1 false [(0,dt)]).wp K U (λ v20 U =>
 ae K 103 [v3,v20] U (aj (λ v21 U =>
 (aw .add aR true v10 (.int .i64 1)).wp K U (λ dy U =>
 lp v0 v3 o0 mA dy U) (aa R)) (aa R))) (aa R)) (aa R))) (aa R))) (aa R)) (aa R)) (
 aq R v3 U)) (aa R)) (aa R)) (aa R)) (aa R))
def Ng:Prop :=
 ae K 99 [a0,(.int .u8 12)] U (aj (λ v5 U =>
 ae K 102 [a0,(.str yh)] U (aj (λ v7 U =>
 ae K 101 [a0] U (aj (λ v10 U =>
 (aS v5).wp K U (λ v11 U =>
 (ah (some 0) v11).wp K U (λ v12 U =>
 (ah (some 1) v12).wp K U (λ cF U =>
 (aG aH cF v10 U).wp K U (λ _ U =>
 ae K 102 [a0,(.str mQ)] U (aj (λ cR U =>
 ae K 168 [a0] U (aj (λ cC U =>
 (aS v5).wp K U (λ dt U =>
 (ah (some 0) dt).wp K U (λ v20 U =>
 (ah (some 2) v20).wp K U (λ v21 U =>
 (aG aH v21 cC U).wp K U (λ _ U =>
 ae K 102 [a0,(.str cJ)] U (aj (λ ee U =>
 ae K 168 [a0] U (aj (λ eC U =>
 (aS v5).wp K U (λ dM U =>
 (ah (some 0) dM).wp K U (λ v28 U =>
 (ah (some 3) v28).wp K U (λ et U =>
 (aG aH et eC U).wp K U (λ _ U =>
 ae K 102 [a0,(.str tc)] U (aj (λ v31 U =>
 ae K 169 [a0] U (aj (λ ix U =>
 (aF (some (87,1)) (some [.aU]) 1 false [(0,ix)]).wp K U (λ iU U =>
 ae K 103 [v5,iU] U (aj (λ hP U =>
 aq R hP U) (aa R))) (aa R)) (aa R))) (aa R))) (aa R)) (aa R)) (aa R)) (aa R)) (aa R))) (aa R))) (aa R)) (aa R)) (aa R)) (aa R)) (aa R))) (aa R))) (aa R)) (aa R)) (aa R)) (aa R)) (aa R))) (aa R))) (aa R))
def Ni:Prop :=
 ae K 99 [a0,(.int .u8 13)] U (aj (λ v5 U =>
 ae K 102 [a0,(.str qO)] U (aj (λ v7 U =>
 ae K 101 [a0] U (aj (λ v10 U =>
 (aS v5).wp K U (λ v11 U =>
 (ah (some 0) v11).wp K U (λ v12 U =>
 (ah (some 1) v12).wp K U (λ cF U =>
 (aG aH cF v10 U).wp K U (λ _ U =>
 ae K 102 [a0,(.str tc)] U (aj (λ cR U =>
 ae K 169 [a0] U (aj (λ cC U =>
 (aF (some (87,1)) (some [.aU]) 1 false [(0,cC)]).wp K U (λ dt U =>
 ae K 103 [v5,dt] U (aj (λ v20 U =>
 ae K 102 [a0,(.str mC)] U (aj (λ dy U =>
 ae K 169 [a0] U (aj (λ ej U =>
 (aF (some (87,1)) (some [.aU]) 1 false [(0,ej)]).wp K U (λ eC U =>
 ae K 103 [v5,eC] U (aj (λ dM U =>
 aq R dM U) (aa R))) (aa R)) (aa R))) (aa R))) (aa R))) (aa R)) (aa R))) (aa R))) (aa R)) (aa R)) (aa R)) (aa R)) (aa R))) (aa R))) (aa R))
def Nk:Prop :=
 ae K 99 [a0,(.int .u8 15)] U (aj (λ v5 U =>
 ae K 102 [a0,(.str py)] U (aj (λ v7 U =>
 ae K 169 [a0] U (aj (λ v10 U =>
 (aF (some (87,1)) (some [.aU]) 1 false [(0,v10)]).wp K U (λ v11 U =>
 ae K 103 [v5,v11] U (aj (λ v12 U =>
 ae K 102 [a0,(.str mC)] U (aj (λ db U =>
 ae K 169 [a0] U (aj (λ dL U =>
 (aF (some (87,1)) (some [.aU]) 1 false [(0,dL)]).wp K U (λ cC U =>
 ae K 103 [v5,cC] U (aj (λ dt U =>
 aq R dt U) (aa R))) (aa R)) (aa R))) (aa R))) (aa R))) (aa R)) (aa R))) (aa R))) (aa R))
def Nn:Prop :=
 ae K 99 [a0,(.int .u8 14)] U (aj (λ v5 U =>
 ae K 102 [a0,(.str pz)] U (aj (λ v7 U =>
 ae K 101 [a0] U (aj (λ v10 U =>
 (aS v5).wp K U (λ v11 U =>
 (ah (some 0) v11).wp K U (λ v12 U =>
 (ah (some 1) v12).wp K U (λ cF U =>
 (aG aH cF v10 U).wp K U (λ _ U =>
 ae K 102 [a0,(.str cJ)] U (aj (λ cR U =>
 ae K 168 [a0] U (aj (λ cC U =>
 (aS v5).wp K U (λ dt U =>
 (ah (some 0) dt).wp K U (λ v20 U =>
 (ah (some 2) v20).wp K U (λ v21 U =>
 (aG aH v21 cC U).wp K U (λ _ U =>
 ae K 102 [a0,(.str tc)] U (aj (λ ee U =>
 ae K 169 [a0] U (aj (λ eC U =>
 (aF (some (87,1)) (some [.aU]) 1 false [(0,eC)]).wp K U (λ dM U =>
 ae K 103 [v5,dM] U (aj (λ v28 U =>
 aq R v28 U) (aa R))) (aa R)) (aa R))) (aa R))) (aa R)) (aa R)) (aa R)) (aa R)) (aa R))) (aa R))) (aa R)) (aa R)) (aa R)) (aa R)) (aa R))) (aa R))) (aa R))
def Np:Prop :=
 (λ az:St =>
 ao K (aS a0) (λ v4 =>
 ao K (ah (some 1) v4) (λ v5 =>
 ao K (ar aH v5 az) (λ v6 =>
 ao K (aS a0) (λ v8 =>
 ao K (ah (some 0) v8) (λ v9 =>
 ao K (ar aH v9 az) (λ v10 =>
 ao K (bR (some false) v10) (λ v11 =>
 ao K (aw .lss aR false v6 v11) (λ v12 =>
 aA v12 (
 (λ er:St =>
 ao K (aS a0) (λ db =>
 ao K (ah (some 0) db) (λ cR =>
 ao K (ar aH cR er) (λ cO =>
 ao K (aS a0) (λ cC =>
 ao K (ah (some 1) cC) (λ dt =>
 ao K (ar aH dt er) (λ v20 =>
 ao K (aJ (some (51,3)) none cO v20) (λ v21 =>
 ao K (ah (some 2) v21) (λ dy =>
 ao K (ar aH dy er) (λ ee =>
 aq R ee U)))))))))) U) (
 (aS a0).wp K U (λ ej U =>
 (ah (some 2) ej).wp K U (λ eC U =>
 (ar aH eC U).wp K U (λ dM U =>
 aq R dM U) (aa R)) (aa R)) (aa R))))))))))) U
def W9:Prop :=
 ae K 167 [a0,(.int .i64 0)] U (aj (λ v7 U =>
 (ay.cB [.int .u8 0,.str [],.int .i64 0]).wp K U (λ v5 U =>
 (aG (some (true,3)) v5 v7 U).wp K U (λ _ U =>
 j5 2 (λ v0 oX U =>
 (aS v0).wp K U (λ cR U =>
 (ah (some 1) cR).wp K U (λ cO U =>
 (ar aH cO U).wp K U (λ dL U =>
 (aw .add aR true dL (.int .i64 1)).wp K U (λ cC U =>
 (aS v0).wp K U (λ dt U =>
 (ah (some 1) dt).wp K U (λ v20 U =>
 (aG aH v20 cC U).wp K U (λ _ U =>
 (ah (some 1) oX).wp K U (λ v21 U =>
 (ar aH v21 U).wp K U (λ dy U =>
 aq R dy U) (aa R)) (aa R)) (aa R)) (aa R)) (aa R)) (aa R)) (aa R)) (aa R)) (aa R)) λ j =>
 (ah (some 0) v5).wp K U (λ v8 U =>
 (ar aH v8 U).wp K U (λ v9 U =>
 (aw .neq aR false v9 a1).wp K U (λ v11 U =>
 aA v11 (
 ae K 166 [a0] U (aj (λ cF U =>
 j a0 v5 U) (aa R))) (
 j a0 v5 U)) (aa R)) (aa R)) (aa R)) (aa R)) (aa R)) (aa R))
def Xa:Prop :=
 ae K 164 [a0] U (aj (λ v3 U =>
 (cX (some [(0,1)]) (some [.int .i64 0]) none [(0,v3)]).wp K U (λ v4 U =>
 (uM true 136 v4).wp K U (λ v5 U =>
 (rB v5).wp K U (λ _ U =>
 aq R (.aQ []) U) (aa R)) (aa R)) (aa R)) (aa R))
def Nt:Prop :=
 (ay.cB [.int .u8 0,.str [],.int .i64 0]).wp K U (λ v4 U =>
 (λ az:St =>
 ao K (aS a0) (λ v6 =>
 ao K (ah (some 1) v6) (λ v7 =>
 ao K (ar aH v7 az) (λ v8 =>
 ao K (aw .add aR false v8 a1) (λ v10 =>
 ao K (aS a0) (λ v12 =>
 ao K (ah (some 0) v12) (λ cF =>
 ao K (ar aH cF az) (λ db =>
 ao K (bR (some false) db) (λ cR =>
 ao K (aw .lss aR false v10 cR) (λ cO =>
 aA cO (
 (λ er:St =>
 ao K (aS a0) (λ cC =>
 ao K (ah (some 0) cC) (λ dt =>
 ao K (ar aH dt er) (λ v20 =>
 ao K (aS a0) (λ dy =>
 ao K (ah (some 1) dy) (λ ee =>
 ao K (ar aH ee er) (λ v24 =>
 ao K (aw .add aR false v24 a1) (λ eC =>
 ao K (aJ (some (51,3)) none v20 eC) (λ dM =>
 ao K (ar (some (true,3)) dM er) (λ v28 =>
 (aG (some (true,3)) v4 v28 U).wp K U (λ _ U =>
 bE (some (true,3)) v4 U λ r0 =>
 aq R r0 U) (aa R))))))))))) U) (
 (cX (some [(0,1),(1,1),(2,1)]) (some [.int .u8 0,.str [],.int .i64 0]) none []).wp K U (λ et U =>
 (aG (some (true,3)) v4 et U).wp K U (λ _ U =>
 bE (some (true,3)) v4 U λ ml =>
 aq R ml U) (aa R)) (aa R)))))))))))) U) (aa R)
def Xb:Prop :=
 ae K 165 [a0,(.int .u8 2)] U (aj (λ v7 U =>
 ae K 218 [v7] U (aj (λ v8 U =>
 (aK v8 0).wp K U (λ v9 U =>
 (aK v8 1).wp K U (λ v10 U =>
 j5 1 (λ v3 U =>
 aq R v3 U) λ j =>
 (aw .neq (BT.mk false true false none false) true v10 .cS).wp K U (λ v12 U =>
 aA v12 (
 ae K 166 [a0] U (aj (λ db U =>
 j v9 U) (aa R))) (
 j v9 U)) (aa R)) (aa R)) (aa R)) (aa R))) (aa R))
def Nw:Prop :=
 ae K 167 [a0,(.int .i64 0)] U (aj (λ v8 U =>
 (ay.cB [.int .u8 0,.str [],.int .i64 0]).wp K U (λ v3 U =>
 (aG (some (true,3)) v3 v8 U).wp K U (λ _ U =>
 (λ az:St =>
 ao K (aS a0) (λ v11 =>
 ao K (ah (some 4) v11) (λ v12 =>
 ao K (ar aH v12 az) (λ cF =>
 ao K (ah (some 1) v3) (λ db =>
 ao K (ar aH db az) (λ cR =>
 ao K (fB (some (.s,186)) (some .c6) cF cR true az) (λ cO =>
 ao K (aK cO 0) (λ dL =>
 ao K (aK cO 1) (λ cC =>
 af K (aB cC true) (ah (some 0) v3) (λ v21 =>
 af K (aB cC true) (ar aH v21 U) (λ dy =>
 af K (aB cC true) (aw .eql aR true dy (.int .u8 3)) (λ ee =>
 (bu cC ee (.bool false)).wp K U (λ v24 U =>
 aA v24 (
 (gi K.P dL [a0]).wp K U (λ dM U =>
 aq R dM U) (aa R)) (
 j5 2 (λ v0 hP U =>
 aA hP (
 ae K 99 [v0,(.int .u8 16)] U (aj (λ hU U =>
 ae K 101 [v0] U (aj (λ my U =>
 (aS hU).wp K U (λ oy U =>
 (ah (some 0) oy).wp K U (λ iV U =>
 (ah (some 1) iV).wp K U (λ p8 U =>
 (aG aH p8 my U).wp K U (λ _ U =>
 ae K 102 [v0,(.str cJ)] U (aj (λ v46 U =>
 ae K 169 [v0] U (aj (λ v49 U =>
 (aF (some (87,1)) (some [.aU]) 1 false [(0,v49)]).wp K U (λ vK U =>
 ae K 103 [hU,vK] U (aj (λ v51 U =>
 aq R v51 U) (aa R))) (aa R)) (aa R))) (aa R))) (aa R)) (aa R)) (aa R)) (aa R)) (aa R))) (aa R))) (
 ae K 219 [v0,(.int .i64 2)] U (aj (λ v53 U =>
 aq R v53 U) (aa R)))) λ j =>
 (ah (some 0) v3).wp K U (λ v28 U =>
 (ar aH v28 U).wp K U (λ et U =>
 (aw .eql aR true et (.int .u8 1)).wp K U (λ v30 U =>
 af K (aB v30 true) (ay.val a0) (λ jz =>
 aA (aB v30 true) (
 ae K 167 [jz,(.int .i64 1)] U (aj (λ fU U =>
 af K (aB v30 true) (aF (some (9,1)) (some [.str []]) 1 false [(0,(.str cJ))]) (λ ix =>
 af K (aB v30 true) (ay.enter 121 [fU,ix]) (λ iU =>
 (bu v30 iU (.bool false)).wp K U (λ pK U =>
 j a0 pK U) (aa R)))) (aa R))) (
 af K (aB v30 true) (aF (some (9,1)) (some [.str []]) 1 false [(0,(.str cJ))]) (λ J4 =>
 af K (aB v30 true) (ay.enter 121 [(.aQ []),J4]) (λ AW =>
 (bu v30 AW (.bool false)).wp K U (λ Zc U =>
 j a0 Zc U) (aa R)))))) (aa R)) (aa R)) (aa R))) (aa R))))))))))))) U) (aa R)) (aa R)) (aa R))
def Xc:Prop :=
 ae K 230 [a0,a1] U (aj (λ v7 U =>
 (aw .geq aR true v7 (.int .i64 0)).wp K U (λ v8 U =>
 aq R v8 U) (aa R)) (aa R))
def Nz:Prop :=
 (aw .geq aR true a0 (.int .u8 2)).wp K U (λ v4 U =>
 af K (aB v4 true) (ay.val a0) (λ v6 =>
 af K (aB v4 true) (aw .leq aR true v6 (.int .u8 4)) (λ v7 =>
 (bu v4 v7 (.bool false)).wp K U (λ v8 U =>
 aq R v8 U) (aa R)))) (aa R)
def NB:Prop :=
 ae K 206 [a0] U (aj (λ v4 U =>
 af K (aB v4 false) (ay.val a0) (λ v6 =>
 af K (aB v4 false) (aw .eql aR true v6 (.int .u8 8)) (λ v7 =>
 (bu v4 (.bool true) v7).wp K U (λ v8 U =>
 aq R v8 U) (aa R)))) (aa R))
def ND:Prop :=
 (aw .geq aR true a0 (.int .u8 9)).wp K U (λ v4 U =>
 af K (aB v4 true) (ay.val a0) (λ v6 =>
 af K (aB v4 true) (aw .leq aR true v6 (.int .u8 34)) (λ v7 =>
 (bu v4 v7 (.bool false)).wp K U (λ v8 U =>
 aq R v8 U) (aa R)))) (aa R)
def NG:Prop :=
 (aw .eql aR true a0 (.int .u8 6)).wp K U (λ v4 U =>
 af K (aB v4 false) (ay.val a0) (λ v6 =>
 af K (aB v4 false) (aw .eql aR true v6 (.int .u8 7)) (λ v7 =>
 (bu v4 (.bool true) v7).wp K U (λ v8 U =>
 aq R v8 U) (aa R)))) (aa R)
def NI:Prop :=
 ae K 185 [a0] U (aj (λ v4 U =>
 af K (aB v4 false) (ay.val a0) (λ v6 =>
 af K (aB v4 false) (aw .eql aR true v6 (.int .u8 35)) (λ v7 =>
 (bu v4 (.bool true) v7).wp K U (λ v8 U =>
 af K (aB v8 false) (ay.val a0) (λ v10 =>
 af K (aB v8 false) (aw .eql aR true v10 (.int .u8 36)) (λ v11 =>
 (bu v8 (.bool true) v11).wp K U (λ v12 U =>
 aq R v12 U) (aa R)))) (aa R)))) (aa R))
def NK:Prop :=
 ae K 33 [a0] U (aj (λ v8 U =>
 (aK v8 0).wp K U (λ v9 U =>
 (aK v8 1).wp K U (λ v10 U =>
 (aK v8 2).wp K U (λ v11 U =>
 (aw .eql aR true v11 (.int .i64 0)).wp K U (λ cF U =>
 af K (aB cF true) (ay.val v9) (λ cR =>
 af K (aB cF true) (bR (some false) cR) (λ cO =>
 af K (aB cF true) (aw .eql aR true cO (.int .i64 1)) (λ dL =>
 (bu cF dL (.bool false)).wp K U (λ cC U =>
 af K (aB cC true) (ay.val v9) (λ v20 =>
 af K (aB cC true) (aJ (some (51,3)) none v20 (.int .i64 0)) (λ v21 =>
 af K (aB cC true) (ah (some 0) v21) (λ dy =>
 af K (aB cC true) (ar aH dy U) (λ ee =>
 af K (aB cC true) (aw .eql aR true ee (.int .u8 1)) (λ v24 =>
 (bu cC v24 (.bool false)).wp K U (λ ej U =>
 af K (aB ej true) (ay.val v9) (λ dM =>
 af K (aB ej true) (aJ (some (51,3)) none dM (.int .i64 0)) (λ v28 =>
 af K (aB ej true) (ah (some 1) v28) (λ et =>
 af K (aB ej true) (ar aH et U) (λ v30 =>
 af K (aB ej true) (ay.val a0) (λ v31 =>
 af K (aB ej true) (aw .eql aR false v30 v31) (λ jz =>
 (bu ej jz (.bool false)).wp K U (λ fU U =>
 aq R fU U) (aa R)))))))) (aa R))))))) (aa R))))) (aa R)) (aa R)) (aa R)) (aa R)) (aa R))
def NM:Prop :=
 (bR (some false) a1).wp K U (λ v12 U =>
 dT 5 [a0,a1,a1,v12,(.int .i64 0)] U λ lp v0 v1 v11 DE cF U =>
 (aw .lss aR false cF DE).wp K U (λ db U =>
 aA db (
 (aJ (some (200,3)) none v11 cF).wp K U (λ cO U =>
 (ar (some (true,3)) cO U).wp K U (λ dL U =>
 (ay.cB [.c6,.int .i64 0,.int .i64 0]).wp K U (λ v6 U =>
 (aG (some (true,3)) v6 dL U).wp K U (λ _ U =>
 (aw .add aR true cF (.int .i64 1)).wp K U (λ v20 U =>
 (gp false (some (200,3)) v1 (some v20) none).wp K U (λ v21 U =>
 (bR (some false) v21).wp K U (λ dy U =>
 dT 10 [v0,v1,v6,(.int .i64 0),v11,DE,cF,v21,dy,(.int .i64 0)] U λ ze mx k9 ta v7 AQ Sx x9 SB SC ee U =>
 (aw .lss aR false ee SC).wp K U (λ v24 U =>
 aA v24 (
 (aJ (some (200,3)) none SB ee).wp K U (λ ej U =>
 (ar (some (true,3)) ej U).wp K U (λ eC U =>
 (ay.cB [.c6,.int .i64 0,.int .i64 0]).wp K U (λ v9 U =>
 (aG (some (true,3)) v9 eC U).wp K U (λ _ U =>
 (ah (some 1) v9).wp K U (λ v28 U =>
 (ar aH v28 U).wp K U (λ et U =>
 (aw .add aR false v7 et).wp K U (λ v30 U =>
 (aw .add aR true ee (.int .i64 1)).wp K U (λ v31 U =>
 ze mx k9 ta v30 AQ Sx x9 SB SC v31 U) (aa R)) (aa R)) (aa R)) (aa R)) (aa R)) (aa R)) (aa R)) (aa R)) (
 dT 8 [mx,k9,ta,v7,(.int .i64 0),AQ,Sx,x9] U λ PI J2 XF J5 lf v10 Sv Sy AR U =>
 j5 9 (λ Xr XG XI F2 u9 Sw Sz SA qx U =>
 aA qx (
 (aw .add aR true u9 (.int .i64 1)).wp K U (λ p9 U =>
 PI Xr XG XI F2 p9 Sw Sz SA U) (aa R)) (
 (ah (some 1) XI).wp K U (λ jY U =>
 (ar aH jY U).wp K U (λ Ij U =>
 (aw .lss aR false u9 Ij).wp K U (λ xr U =>
 aA xr (
 aq R (.bool false) U) (
 (gp false (some (5,1)) Xr (some u9) none).wp K U (λ qd U =>
 (aw .add aR true SA (.int .i64 1)).wp K U (λ F1 U =>
 lp qd XG Sw Sz F1 U) (aa R)) (aa R))) (aa R)) (aa R)) (aa R))) λ j =>
 (λ az:St =>
 ao K (bR (some false) J2) (λ ix =>
 ao K (aw .sub aR false ix lf) (λ hP =>
 ao K (aw .lss aR false v10 hP) (λ v37 =>
 af K (aB v37 true) (ay.val v10) (λ ly =>
 af K (aB v37 true) (ah (some 2) J5) (λ v40 =>
 af K (aB v37 true) (ar aH v40 az) (λ my =>
 af K (aB v37 true) (aw .lss aR false ly my) (λ oy =>
 ao K (bu v37 oy (.bool false)) (λ iV =>
 af K (aB iV true) (ah (some 0) J5) (λ oV =>
 af K (aB iV true) (ar aH oV az) (λ v46 =>
 af K (aB iV true) (ay.val J2) (λ sC =>
 af K (aB iV true) (ay.val v10) (λ C1 =>
 af K (aB iV true) (aJ (some (5,1)) none sC C1) (λ v49 =>
 af K (aB iV true) (ar aH v49 az) (λ vK =>
 aA (aB iV true) (
 (gi K.P v46 [vK]).wp K U (λ v51 U=>cE ((dH v49++[])++((dH oV++[])++((dH v40++[])++[]))) az U /\
 ao K (bu iV v51 (.bool false)) (λ Zd =>
 j J2 XF J5 lf v10 Sv Sy AR Zd U)) (aa R)) (
 ao K (bu iV (.aQ []) (.bool false)) (λ Ze =>
 j J2 XF J5 lf v10 Sv Sy AR Ze U))))))))))))))))) U)) (aa R)) (aa R)) (aa R)) (aa R)) (aa R)) (aa R)) (aa R)) (aa R)) (
 (bR (some false) v0).wp K U (λ qe U =>
 (aw .eql aR true qe (.int .i64 0)).wp K U (λ oZ U =>
 aq R oZ U) (aa R)) (aa R))) (aa R)) (aa R)
def FJ:Prop :=
 (bR (some false) a0).wp K U (λ v7 U =>
 dT 4 [a0,a1,v7,(.int .i64 0)] U λ lp v0 v1 lf v8 U =>
 (aw .lss aR false v8 lf).wp K U (λ v9 U =>
 aA v9 (
 (aJ (some (3,1)) none v0 v8).wp K U (λ db U =>
 (ar aH db U).wp K U (λ cR U =>
 (gi K.P v1 [cR]).wp K U (λ cO U =>
 aA cO (
 aq R v8 U) (
 (aw .add aR true v8 (.int .i64 1)).wp K U (λ cC U =>
 lp v0 v1 lf cC U) (aa R))) (aa R)) (aa R)) (aa R)) (
 aq R (.int .i64 (-1)) U)) (aa R)) (aa R)
def Xd:Prop :=
 ae K 243 [a0,a1] U (aj (λ v10 U =>
 (aw .geq aR true v10 (.int .i64 0)).wp K U (λ v12 U =>
 aA v12 (
 (λ az:St =>
 ao K (gp true none a0 none (some v10)) (λ cR =>
 ao K (bR (some true) a1) (λ dt =>
 ao K (aw .add aR false v10 dt) (λ v20 =>
 ao K (gp true none a0 (some v20) none) (λ v21 =>
 aq R (.aQ [cR,v21,(.bool true)]) U))))) U) (
 aq R (.aQ [a0,(.str w_),(.bool false)]) U)) (aa R)) (aa R))
def Xe:Prop :=
 ae K 246 [a0,a1] U (aj (λ v7 U =>
 (aw .geq aR true v7 (.int .i64 0)).wp K U (λ v8 U =>
 aq R v8 U) (aa R)) (aa R))
def NP:Prop :=
 (aw .eql aR true a0 (.int .u8 32)).wp K U (λ v5 U =>
 af K (aB v5 false) (ay.val a0) (λ v7 =>
 af K (aB v5 false) (aw .eql aR true v7 (.int .u8 10)) (λ v8 =>
 (bu v5 (.bool true) v8).wp K U (λ v9 U =>
 aA v9 (
 aq R (.int .i64 1) U) (
 (aw .lss aR true a0 (.int .u8 32)).wp K U (λ v12 U =>
 af K (aB v12 false) (ay.val a0) (λ db =>
 af K (aB v12 false) (aw .gtr aR true db (.int .u8 126)) (λ cR =>
 (bu v12 (.bool true) cR).wp K U (λ cO U =>
 aA cO (
 aq R (.int .i64 0) U) (
 (aw .geq aR true a0 (.int .u8 48)).wp K U (λ dt U =>
 af K (aB dt true) (ay.val a0) (λ v21 =>
 af K (aB dt true) (aw .leq aR true v21 (.int .u8 57)) (λ dy =>
 (bu dt dy (.bool false)).wp K U (λ ee U =>
 aA ee (
 aq R (.int .i64 2) U) (
 (aw .geq aR true a0 (.int .u8 97)).wp K U (λ eC U =>
 af K (aB eC true) (ay.val a0) (λ v28 =>
 af K (aB eC true) (aw .leq aR true v28 (.int .u8 122)) (λ et =>
 (bu eC et (.bool false)).wp K U (λ v30 U =>
 aA v30 (
 aq R (.int .i64 3) U) (
 (aw .geq aR true a0 (.int .u8 65)).wp K U (λ fU U =>
 af K (aB fU true) (ay.val a0) (λ iU =>
 af K (aB fU true) (aw .leq aR true iU (.int .u8 90)) (λ hP =>
 (bu fU hP (.bool false)).wp K U (λ v37 U =>
 aA v37 (
 aq R (.int .i64 4) U) (
 aq R (.int .i64 5) U)) (aa R)))) (aa R))) (aa R)))) (aa R))) (aa R)))) (aa R))) (aa R)))) (aa R))) (aa R)))) (aa R)
def NR:Prop :=
 (aw .eql aR true a1 (.int .i64 9)).wp K U (λ v12 U =>
 aA v12 (
 ae K 252 [a0] U (aj (λ db U =>
 aq R db U) (aa R))) (
 (aw .eql aR true a1 (.int .i64 4)).wp K U (λ cO U =>
 aA cO (
 ae K 99 [a0,(.int .u8 19)] U (aj (λ cC U =>
 ae K 100 [a0,(.str DI)] U (aj (λ v20 U =>
 aA v20 (
 ae K 219 [a0,(.int .i64 4)] U (aj (λ ee U =>
 (aF (some (87,1)) (some [.aU]) 1 false [(0,ee)]).wp K U (λ v24 U =>
 ae K 103 [cC,v24] U (aj (λ ej U =>
 aq R ej U) (aa R))) (aa R)) (aa R))) (
 (aw .add aR true a1 (.int .i64 1)).wp K U (λ v28 U =>
 ae K 219 [a0,v28] U (aj (λ et U =>
 aq R et U) (aa R))) (aa R))) (aa R))) (aa R))) (
 (aw .add aR true a1 (.int .i64 1)).wp K U (λ jz U =>
 ae K 219 [a0,jz] U (aj (λ fU U =>
 dT 3 [a0,a1,fU] U λ lp v0 v1 v6 U =>
 (λ az:St =>
 ao K (aS v0) (λ hP =>
 ao K (ah (some 3) hP) (λ v37 =>
 ao K (ar aH v37 az) (λ hU =>
 ao K (fB (some (.i,185)) (some .ji) hU v1 false az) (λ v40 =>
 ae K 253 [v0] U (aj (λ oy U=>cE ((dH hU++(dH v1++[]))++((dH v37++[])++[])) az U /\
 (∀ b∈dH v40++(dH oy++[]),b∈(dH hU++(dH v1++[]))++((dH v37++[])++[])) /\
 ao K (fB (some (.s,5)) (some (.int .u8 0)) v40 oy true az) (λ iV =>
 ao K (aK iV 0) (λ p8 =>
 ao K (aK iV 1) (λ oV =>
 (ig .not oV).wp K U (λ sC U =>
 aA sC (
 aq R v6 U) (
 ae K 99 [v0,p8] U (aj (λ v51 U =>
 (aS v0).wp K U (λ v53 U =>
 (ah (some 1) v53).wp K U (λ p9 U =>
 (ar aH p9 U).wp K U (λ sD U =>
 (aw .add aR true sD (.int .i64 1)).wp K U (λ jY U =>
 (aS v0).wp K U (λ Ij U =>
 (ah (some 1) Ij).wp K U (λ xr U =>
 (aG aH xr jY U).wp K U (λ _ U =>
 (aw .eql aR true v1 (.int .i64 8)).wp K U (λ oY U =>
 aA oY (
 ae K 168 [v0] U (aj (λ yP U =>
 (aS v51).wp K U (λ qe U =>
 (ah (some 0) qe).wp K U (λ oZ U =>
 (ah (some 2) oZ).wp K U (λ xu U =>
 (aG aH xu yP U).wp K U (λ _ U =>
 (aF (some (87,1)) (some [.aU]) 1 false [(0,v6)]).wp K U (λ xv U =>
 ae K 103 [v51,xv] U (aj (λ v70 U =>
 lp v0 v1 v70 U) (aa R))) (aa R)) (aa R)) (aa R)) (aa R)) (aa R)) (aa R))) (
 (aw .add aR true v1 (.int .i64 1)).wp K U (λ v75 U =>
 ae K 219 [v0,v75] U (aj (λ v76 U =>
 (aF (some (87,1)) (some [.aU]) 2 false [(0,v6),(1,v76)]).wp K U (λ vL U =>
 ae K 103 [v51,vL] U (aj (λ C3 U =>
 (aw .eql aR true v1 (.int .i64 5)).wp K U (λ v80 U =>
 aA v80 (
 aq R C3 U) (
 lp v0 v1 C3 U)) (aa R)) (aa R))) (aa R)) (aa R))) (aa R))) (aa R)) (aa R)) (aa R)) (aa R)) (aa R)) (aa R)) (aa R)) (aa R)) (aa R)))) (aa R))))) (aa R))))))) U) (aa R))) (aa R))) (aa R))) (aa R)
def NT:Prop :=
 (bR (some false) a0).wp K U (λ v7 U =>
 dT 4 [a0,a1,v7,(.int .i64 0)] U λ lp v0 v1 lf v8 U =>
 (aw .lss aR false v8 lf).wp K U (λ v9 U =>
 aA v9 (
 (aJ (some (9,1)) none v0 v8).wp K U (λ db U =>
 (ar aH db U).wp K U (λ cR U =>
 (aw .eql aR false v1 cR).wp K U (λ cO U =>
 aA cO (
 aq R v8 U) (
 (aw .add aR true v8 (.int .i64 1)).wp K U (λ cC U =>
 lp v0 v1 lf cC U) (aa R))) (aa R)) (aa R)) (aa R)) (
 aq R (.int .i64 (-1)) U)) (aa R)) (aa R)
def NW:Prop :=
 (aS a0).wp K U (λ v10 U =>
 (ah (some 2) v10).wp K U (λ v11 U =>
 (ar aH v11 U).wp K U (λ v12 U =>
 (xh (some (.i,185)) v12).wp K U (λ cF U =>
 dT 2 [a1,cF] U λ lp v1 x9 U =>
 (qE x9 U).wp K U (λ db U =>
 (aK db 0).wp K U (λ cR U =>
 aA cR (
 (ny x9 U).wp K U (λ cO U =>
 (aK cO 0).wp K U (λ dL U =>
 (aK cO 1).wp K U (λ cC U =>
 (xh (some (.s,5)) cC).wp K U (λ v20 U =>
 dT 4 [v1,dL,x9,v20] U λ ze k9 v5 AR pJ U =>
 (qE pJ U).wp K U (λ v21 U =>
 (aK v21 0).wp K U (λ dy U =>
 aA dy (
 (ny pJ U).wp K U (λ ee U =>
 (aK ee 1).wp K U (λ v24 U =>
 (aw .eql aR false v24 k9).wp K U (λ dM U =>
 aA dM (
 aq R v5 U) (
 ze k9 v5 AR pJ U)) (aa R)) (aa R)) (aa R)) (
 lp k9 AR U)) (aa R)) (aa R)) (aa R)) (aa R)) (aa R)) (aa R)) (
 (aw .eql aR true v1 (.int .u8 9)).wp K U (λ v31 U =>
 aA v31 (
 aq R (.int .i64 0) U) (
 (aw .eql aR true v1 (.int .u8 19)).wp K U (λ ix U =>
 aA ix (
 aq R (.int .i64 4) U) (
 (aw .geq aR true v1 (.int .u8 10)).wp K U (λ v37 U =>
 af K (aB v37 true) (ay.val v1) (λ ly =>
 af K (aB v37 true) (aw .leq aR true ly (.int .u8 16)) (λ v40 =>
 (bu v37 v40 (.bool false)).wp K U (λ my U =>
 aA my (
 aq R (.int .i64 1) U) (
 aq R (.int .i64 9) U)) (aa R)))) (aa R))) (aa R))) (aa R))) (aa R)) (aa R)) (aa R)) (aa R)) (aa R)) (aa R)
def NY:Prop :=
 (ar aH a1 U).wp K U (λ v5 U =>
 (aw .eql aR false a0 v5).wp K U (λ v6 U =>
 aq R v6 U) (aa R)) (aa R)
def N0:Prop :=
 (bR (some false) a0).wp K U (λ v7 U =>
 dT 4 [a0,a1,v7,(.int .i64 0)] U λ lp v0 v1 lf v8 U =>
 (aw .lss aR false v8 lf).wp K U (λ v9 U =>
 aA v9 (
 (aJ (some (178,1)) none v0 v8).wp K U (λ db U =>
 (ar aH db U).wp K U (λ cR U =>
 (aw .eql aR false v1 cR).wp K U (λ cO U =>
 aA cO (
 aq R v8 U) (
 (aw .add aR true v8 (.int .i64 1)).wp K U (λ cC U =>
 lp v0 v1 lf cC U) (aa R))) (aa R)) (aa R)) (aa R)) (
 aq R (.int .i64 (-1)) U)) (aa R)) (aa R)
def N2:Prop :=
 (ay.Dy).wp K U (λ v10 U =>
 (iH (some (.s,5)) v10 (.str gr) (.int .u8 27) U).wp K U (λ _ U =>
 (iH (some (.s,5)) v10 (.str gK) (.int .u8 28) U).wp K U (λ _ U =>
 (iH (some (.s,5)) v10 (.str kJ) (.int .u8 29) U).wp K U (λ _ U =>
 (iH (some (.s,5)) v10 (.str mD) (.int .u8 30) U).wp K U (λ _ U =>
 (iH (some (.s,5)) v10 (.str o4) (.int .u8 31) U).wp K U (λ _ U =>
 (iH (some (.s,5)) v10 (.str qI) (.int .u8 32) U).wp K U (λ _ U =>
 ae K 253 [a0] U (aj (λ cR U =>
 (fB (some (.s,5)) (some (.int .u8 0)) v10 cR true U).wp K U (λ cO U =>
 (aK cO 0).wp K U (λ dL U =>
 (aK cO 1).wp K U (λ cC U =>
 aA cC (
 ae K 99 [a0,dL] U (aj (λ dy U =>
 (aS a0).wp K U (λ v24 U =>
 (ah (some 1) v24).wp K U (λ ej U =>
 (ar aH ej U).wp K U (λ eC U =>
 (aw .add aR true eC (.int .i64 1)).wp K U (λ dM U =>
 (aS a0).wp K U (λ v28 U =>
 (ah (some 1) v28).wp K U (λ et U =>
 (aG aH et dM U).wp K U (λ _ U =>
 j5 1 (λ v6 U =>
 aq R v6 U) λ j =>
 (aw .eql aR true dL (.int .u8 31)).wp K U (λ v31 U =>
 af K (aB v31 false) (ay.val dL) (λ fU =>
 af K (aB v31 false) (aw .eql aR true fU (.int .u8 32)) (λ ix =>
 (bu v31 (.bool true) ix).wp K U (λ iU U =>
 aA iU (
 ae K 101 [a0] U (aj (λ hU U =>
 (aS dy).wp K U (λ ly U =>
 (ah (some 0) ly).wp K U (λ v40 U =>
 (ah (some 1) v40).wp K U (λ my U =>
 (aG aH my hU U).wp K U (λ _ U =>
 j dy U) (aa R)) (aa R)) (aa R)) (aa R)) (aa R))) (
 j dy U)) (aa R)))) (aa R)) (aa R)) (aa R)) (aa R)) (aa R)) (aa R)) (aa R)) (aa R)) (aa R))) (
 ae K 100 [a0,(.str jx)] U (aj (λ p8 U =>
 aA p8 (
 ae K 109 [a0] U (aj (λ v46 U =>
 ae K 102 [a0,(.str gE)] U (aj (λ C1 U =>
 aq R v46 U) (aa R))) (aa R))) (
 ae K 167 [a0,(.int .i64 0)] U (aj (λ v51 U =>
 (rW (some (0,false,1)) v51).wp K U (λ qx U =>
 (aw .eql aR true qx (.int .u8 2)).wp K U (λ v53 U =>
 aA v53 (
 ae K 99 [a0,(.int .u8 26)] U (aj (λ sD U =>
 ae K 168 [a0] U (aj (λ xr U =>
 (aS sD).wp K U (λ v59 U =>
 (ah (some 0) v59).wp K U (λ oY U =>
 (ah (some 2) oY).wp K U (λ qd U =>
 (aG aH qd xr U).wp K U (λ _ U =>
 aq R sD U) (aa R)) (aa R)) (aa R)) (aa R)) (aa R))) (aa R))) (
 ae K 99 [a0,(.int .u8 33)] U (aj (λ qe U =>
 ae K 101 [a0] U (aj (λ sE U =>
 (aS qe).wp K U (λ C2 U =>
 (ah (some 0) C2).wp K U (λ xv U =>
 (ah (some 1) xv).wp K U (λ v70 U =>
 (aG aH v70 sE U).wp K U (λ _ U =>
 j5 1 (λ v9 U =>
 aq R v9 U) λ Lw =>
 ae K 100 [a0,(.str jx)] U (aj (λ v72 U =>
 aA v72 (
 (aS qe).wp K U (λ tX U =>
 (ah (some 0) tX).wp K U (λ v75 U =>
 (ah (some 0) v75).wp K U (λ v76 U =>
 (aG aH v76 (.int .u8 34) U).wp K U (λ _ U =>
 ae K 106 [a0,qe,(.func (.func 269) [a0] [])] U (aj (λ C4 U =>
 ae K 102 [a0,(.str gE)] U (aj (λ Ik U =>
 Lw qe U) (aa R))) (aa R))) (aa R)) (aa R)) (aa R)) (aa R)) (
 Lw qe U)) (aa R))) (aa R)) (aa R)) (aa R)) (aa R)) (aa R))) (aa R)))) (aa R)) (aa R)) (aa R)))) (aa R)))) (aa R)) (aa R)) (aa R)) (aa R))) (aa R)) (aa R)) (aa R)) (aa R)) (aa R)) (aa R)) (aa R)
def N4:Prop :=
 ae K 167 [a0,(.int .i64 0)] U (aj (λ v5 U =>
 (ay.cB [.int .u8 0,.str [],.int .i64 0]).wp K U (λ v3 U =>
 (aG (some (true,3)) v3 v5 U).wp K U (λ _ U =>
 (ah (some 0) v3).wp K U (λ v6 U =>
 (ar aH v6 U).wp K U (λ v7 U =>
 (aw .eql aR true v7 (.int .u8 3)).wp K U (λ v8 U =>
 af K (aB v8 false) (ah (some 0) v3) (λ v10 =>
 af K (aB v8 false) (ar aH v10 U) (λ v11 =>
 af K (aB v8 false) (aw .eql aR true v11 (.int .u8 4)) (λ v12 =>
 (bu v8 (.bool true) v12).wp K U (λ cF U =>
 aA cF (
 (ah (some 1) v3).wp K U (λ db U =>
 (ar aH db U).wp K U (λ cR U =>
 aq R cR U) (aa R)) (aa R)) (
 aq R (.str w_) U)) (aa R))))) (aa R)) (aa R)) (aa R)) (aa R)) (aa R)) (aa R))
def N6:Prop :=
 (aF (some (9,1)) (some [.str []]) 1 false [(0,(.str Gb))]).wp K U (λ v7 U =>
 ae K 105 [a0,v7] U (aj (λ v8 U =>
 aA v8 (
 ae K 99 [a0,(.int .u8 35)] U (aj (λ v10 U =>
 ae K 102 [a0,(.str Gb)] U (aj (λ v12 U =>
 ae K 102 [a0,(.str jx)] U (aj (λ db U =>
 ae K 106 [a0,v10,(.func (.func 278) [a0] [])] U (aj (λ dt U =>
 ae K 102 [a0,(.str gE)] U (aj (λ v21 U =>
 ae K 169 [a0] U (aj (λ v24 U =>
 (aF (some (87,1)) (some [.aU]) 1 false [(0,v24)]).wp K U (λ ej U =>
 ae K 103 [v10,ej] U (aj (λ eC U =>
 aq R eC U) (aa R))) (aa R)) (aa R))) (aa R))) (aa R))) (aa R))) (aa R))) (aa R))) (
 (aF (some (9,1)) (some [.str []]) 1 false [(0,(.str yf))]).wp K U (λ et U =>
 ae K 105 [a0,et] U (aj (λ v30 U =>
 aA v30 (
 ae K 99 [a0,(.int .u8 36)] U (aj (λ jz U =>
 ae K 102 [a0,(.str yf)] U (aj (λ ix U =>
 ae K 102 [a0,(.str J9)] U (aj (λ hP U =>
 ae K 169 [a0] U (aj (λ ly U =>
 (aF (some (87,1)) (some [.aU]) 1 false [(0,ly)]).wp K U (λ v40 U =>
 ae K 103 [jz,v40] U (aj (λ my U =>
 ae K 102 [a0,(.str j9)] U (aj (λ iV U =>
 ae K 102 [a0,(.str Kc)] U (aj (λ oV U =>
 ae K 278 [a0] U (aj (λ C1 U =>
 (aF (some (87,1)) (some [.aU]) 1 false [(0,C1)]).wp K U (λ v49 U =>
 ae K 103 [jz,v49] U (aj (λ vK U =>
 ae K 102 [a0,(.str DF)] U (aj (λ qx U =>
 ae K 169 [a0] U (aj (λ sD U =>
 (aF (some (87,1)) (some [.aU]) 1 false [(0,sD)]).wp K U (λ jY U =>
 ae K 103 [jz,jY] U (aj (λ Ij U =>
 ae K 102 [a0,(.str DG)] U (aj (λ v59 U =>
 aq R jz U) (aa R))) (aa R))) (aa R)) (aa R))) (aa R))) (aa R))) (aa R)) (aa R))) (aa R))) (aa R))) (aa R))) (aa R)) (aa R))) (aa R))) (aa R))) (aa R))) (
 ae K 109 [a0] U (aj (λ F1 U =>
 aq R F1 U) (aa R)))) (aa R))) (aa R))) (aa R))) (aa R)
def N8:Prop :=
 ae K 99 [a0,(.int .u8 37)] U (aj (λ v5 U =>
 ae K 101 [a0] U (aj (λ v8 U =>
 (aS v5).wp K U (λ v9 U =>
 (ah (some 0) v9).wp K U (λ v10 U =>
 (ah (some 1) v10).wp K U (λ v11 U =>
 (aG aH v11 v8 U).wp K U (λ _ U =>
 aq R v5 U) (aa R)) (aa R)) (aa R)) (aa R)) (aa R))) (aa R))
end
section
variable {a0 a1 a2 a3 a4 a5 a6:AV} {R:cM->St->Prop} {U:St}
theorem M7 (h:M6 a0 a1 R U):ae K 154 [a0,a1] U R:=bW Tryz.f154 Uo h
theorem M9 (h:M8 a0 a1 a2 a3 R U):ae K 155 [a0,a1,a2,a3] U R:=bW Tryz.f155 Up h
theorem Nb (h:Na a0 R U):ae K 158 [a0] U R:=bW Tryz.f158 Uq h
theorem Nf (h:Nc a0 R U):ae K 159 [a0] U R:=bW Tryz.f159 Ur h
theorem Nh (h:Ng a0 R U):ae K 160 [a0] U R:=bW Tryz.f160 Us h
theorem Nj (h:Ni a0 R U):ae K 161 [a0] U R:=bW Tryz.f161 Ut h
theorem Nl (h:Nk a0 R U):ae K 162 [a0] U R:=bW Tryz.f162 Uu h
theorem No (h:Nn a0 R U):ae K 163 [a0] U R:=bW Tryz.f163 Uv h
theorem Nq (h:Np a0 R U):ae K 164 [a0] U R:=bW Tryz.f164 Uw h
theorem Nr (h:W9 a0 a1 R U):ae K 165 [a0,a1] U R:=bW Tryz.f165 Ux h
theorem Ns (h:Xa a0 R U):ae K 166 [a0] U R:=bW Tryz.f166 Uy h
theorem Nu (h:Nt a0 a1 R U):ae K 167 [a0,a1] U R:=bW Tryz.f167 Uz h
theorem Nv (h:Xb a0 R U):ae K 168 [a0] U R:=bW Tryz.f168 UA h
theorem Nx (h:Nw a0 R U):ae K 169 [a0] U R:=bW Tryz.f169 UB h
theorem Ny (h:Xc a0 a1 R U):ae K 178 [a0,a1] U R:=bW Tryz.f178 UC h
theorem NA (h:Nz a0 R U):ae K 179 [a0] U R:=bW Tryz.f179 UD h
theorem NC (h:NB a0 R U):ae K 181 [a0] U R:=bW Tryz.f181 UE h
theorem NF (h:ND a0 R U):ae K 185 [a0] U R:=bW Tryz.f185 UF h
theorem NH (h:NG a0 R U):ae K 206 [a0] U R:=bW Tryz.f206 UG h
theorem NJ (h:NI a0 R U):ae K 207 [a0] U R:=bW Tryz.f207 UH h
theorem NL (h:NK a0 R U):ae K 208 [a0] U R:=bW Tryz.f208 UI h
theorem NN (h:NM a0 a1 R U):ae K 209 [a0,a1] U R:=bW Tryz.f209 UJ h
theorem CV (h:FJ a0 a1 R U):ae K 210 [a0,a1] U R:=bW Tryz.f210 UK h
theorem CW (h:Xd a0 a1 R U):ae K 212 [a0,a1] U R:=bW Tryz.f212 UL h
theorem NO (h:Xe a0 a1 R U):ae K 215 [a0,a1] U R:=bW Tryz.f215 UM h
theorem NQ (h:NP a0 R U):ae K 216 [a0] U R:=bW Tryz.f216 UN h
theorem NS (h:NR a0 a1 R U):ae K 219 [a0,a1] U R:=bW Tryz.f219 UO h
theorem NU (h:NT a0 a1 R U):ae K 230 [a0,a1] U R:=bW Tryz.f230 UP h
theorem NX (h:NW a0 a1 R U):ae K 236 [a0,a1] U R:=bW Tryz.f236 UQ h
theorem NZ (h:NY a0 a1 R U):ae K 242 [a0,a1] U R:=bW Tryz.f242 UR h
theorem N1 (h:N0 a0 a1 R U):ae K 246 [a0,a1] U R:=bW Tryz.f246 US h
theorem N3 (h:N2 a0 R U):ae K 252 [a0] U R:=bW Tryz.f252 UT h
theorem N5 (h:N4 a0 R U):ae K 253 [a0] U R:=bW Tryz.f253 UU h
theorem N7 (h:N6 a0 R U):ae K 269 [a0] U R:=bW Tryz.f269 UW h
theorem N9 (h:N8 a0 R U):ae K 278 [a0] U R:=bW Tryz.f278 UX h
end
def FL (a0:AV) (R:cM->St->Prop) (U:St):Prop :=
 (ay.cB [AV.ag]).wp K U (λ v2 U =>
 (cX (some [(0,1),(1,1),(2,1),(3,1),(4,1),(5,1)]) (some [AV.int .u8 0,AV.str [],AV.int .i64 0,AV.int .i64 0,AV.int .i64 0,AV.int .i64 0]) none [(0,(AV.int .u8 1))]).wp K U (λ v6 U =>
 (cX (some [(0,6),(6,1)]) (some [AV.int .u8 0,AV.str [],AV.int .i64 0,AV.int .i64 0,AV.int .i64 0,AV.int .i64 0,AV.ag]) none [(0,v6),(1,a0)]).wp K U (λ v8 U =>
 (fM v8).wp K U (λ v9 U =>
 ae K 110 [v9] U (aj (λ v11 U =>
 (cX (some [(0,1)]) (some [AV.ag]) none [(0,v11)]).wp K U (λ v12 U =>
 (ay.cB [AV.ag]).wp K U (λ v5 U =>
 (aG (some (true,1)) v5 v12 U).wp K U (λ _ U =>
 j5 3 (λ fH oX v20 U =>
 aA v20 (
 (cX (some [(0,1)]) (some [AV.ag]) none []).wp K U (λ v21 U =>
 (aG (some (true,1)) fH v21 U).wp K U (λ _ U =>
 bE (some (true,1)) fH U λ r0 =>
 aq R (AV.aQ [r0,(AV.int .i64 5)]) U) (aa R)) (aa R)) (
 (ar (some (true,1)) oX U).wp K U (λ dy U =>
 (aG (some (true,1)) fH dy U).wp K U (λ _ U =>
 bE (some (true,1)) fH U λ ml =>
 aq R (AV.aQ [ml,(AV.int .i64 0)]) U) (aa R)) (aa R))) λ j =>
 (ah (some 0) v5).wp K U (λ cF U =>
 (ar (some (false,1)) cF U).wp K U (λ db U =>
 (bR (some false) db).wp K U (λ cR U =>
 (aw .gtr (BT.mk false false false none false) true cR (AV.int .i64 900)).wp K U (λ cO U =>
 af K (aB cO false) (ar (some (true,1)) v5 U) (λ cC =>
 aA (aB cO false) (
 ae K 69 [cC] U (aj (λ dt U =>
 (bu cO (AV.bool true) dt).wp K U (λ pJ U =>
 j v2 v5 pJ U) (aa R)) (aa R))) (
 (bu cO (AV.bool true) (AV.aQ [])).wp K U (λ AT U =>
 j v2 v5 AT U) (aa R)))) (aa R)) (aa R)) (aa R)) (aa R)) (aa R)) (aa R)) (aa R)) (aa R))) (aa R)) (aa R)) (aa R)) (aa R)
theorem Oa {a0:AV} {R:cM->St->Prop} {U:St} (h:FL a0 R U):ae K 56 [a0] U R :=
 ae.HW BZ Ki (by kernel_rfl) (by kernel_rfl) (Eq.mp (show FL a0 R U=Dj K Tryz.f56 Ki [a0] R U by kernel_rfl) h)
end Go.Rip
