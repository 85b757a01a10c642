/- Lemmas for the proof: no conditions. -/
import Derived.Test.YtnfpmiiopiinbaaGreatDoorRipZz
import Derived.Test.YtnfpmiiopiinbaaGreatDoorRipD
set_option linter.unusedVariables false
set_option linter.unusedSimpArgs false
set_option linter.loopingSimpArgs false
set_option maxRecDepth 100000
namespace Go.Rip
open Go.Proofs
def ac5:An:=aj (.bk (.lp [0,2,3,5] (a7 (aj (.cd .z .z)) (a7 (.bk (aj (.cd .z .z))) cW))))
def ac6:An:=aj (aj (aj .z))
def ac7:An:=aj (aj (a7 (aj (.bk (.lp [0,3,8,9,10] (aj (a7 (.cd .z .z) (a7 (.bk (aj (aj cW))) cW)))))) (aj .z)))
def ac8:An:=aj (aj (a7 (aj (.bk (.lp [0,3,8,9,10] (aj (a7 (.cd .z .z) (a7 (.bk (aj (aj cW))) cW)))))) (aj .z)))
def ac9:An:=aj (aj (aj (aj (aj (aj (aj (aj (aj (aj .z)))))))))
def ada:An:=aj (aj (aj (aj (aj (aj (aj (aj .z)))))))
def adb:An:=aj (aj (aj (aj (aj (aj .z)))))
def ade:An:=aj (aj (aj (aj (aj (aj (aj (aj .z)))))))
def adf:An:=aj (a7 (a7 (.rg [] [] (some ⟨[(true,0),(true,1),(true,2),(true,3),(true,4),(true,5),(true,6),(true,7),(true,8),(true,9)],[⟨8,1,0⟩,⟨16,8,1⟩,⟨32,16,2⟩,⟨64,32,4⟩,⟨128,1,0⟩,⟨256,128,16⟩,⟨512,256,32⟩,⟨1024,512,64⟩,⟨2048,1024,128⟩,⟨4096,2112,264⟩]⟩)) (.cd (a7 (.rg [] [] (some ⟨[(true,0),(true,1),(true,2),(true,3),(true,4),(true,5),(true,6),(true,7),(true,8),(true,9),(true,10),(true,11)],[⟨8192,1,0⟩,⟨16384,8192,1⟩,⟨32768,16384,2⟩,⟨65536,32768,4⟩,⟨131072,1,0⟩,⟨262144,131072,16⟩,⟨524288,262144,32⟩,⟨1048576,524288,64⟩,⟨2097152,1114112,136⟩,⟨4194304,2097152,256⟩,⟨8388608,4194304,512⟩,⟨4,8388608,2047⟩]⟩)) .z) .z)) (aj .z))
def adg:An:=aj (aj (.sq (some [0,5]) (aj (.cd cW .z)) (aj (aj .z))))
def adh:An:=cW
def adi:An:=aj (a7 (a7 (.rg [] [] (some ⟨[(true,0),(true,1),(true,2),(true,3),(true,4),(true,5),(true,6),(true,7),(true,8),(true,9),(true,10),(true,11)],[⟨32,1,0⟩,⟨64,32,1⟩,⟨128,64,2⟩,⟨256,128,4⟩,⟨512,2,0⟩,⟨1024,768,24⟩,⟨2048,1,0⟩,⟨4096,2048,64⟩,⟨8192,4096,128⟩,⟨16384,8192,256⟩,⟨32768,16384,512⟩,⟨65536,33792,1056⟩]⟩)) (.cd (a7 (.rg [] [] (some ⟨[(true,0),(true,1),(true,2),(true,3),(true,4),(true,5),(true,6),(true,7),(true,8),(true,9),(true,10),(true,11),(false,12)],[⟨131072,1,0⟩,⟨262144,131072,1⟩,⟨524288,262144,2⟩,⟨1048576,524288,4⟩,⟨2097152,1,0⟩,⟨4194304,2097152,16⟩,⟨8388608,4194304,32⟩,⟨16777216,8388608,64⟩,⟨33554432,2,0⟩,⟨67108864,50331648,384⟩,⟨134217728,68157440,520⟩,⟨268435456,134217728,1024⟩,⟨0,268435472,4095⟩]⟩)) .z) .z)) (aj .z))
def adj:An:=aj (aj (.sq (some [3]) (aj (.cd cW .z)) (aj .z)))
def adk:An:=aj (aj (a7 (a7 (.rg [] [] (some ⟨[(true,0),(true,1),(true,2),(true,3),(true,4),(true,5),(true,6),(true,7),(true,8),(true,9),(true,10),(true,11)],[⟨1024,1,0⟩,⟨2048,1024,1⟩,⟨4096,2048,2⟩,⟨8192,4096,4⟩,⟨16384,8,0⟩,⟨32768,16384,16⟩,⟨65536,40960,40⟩,⟨512,65536,64⟩,⟨131072,512,128⟩,⟨262144,512,128⟩,⟨16,131072,511⟩,⟨32,262144,2047⟩]⟩)) (aj (.cd (aj .z) .z))) (a7 (.sq (some [0,36]) (.rg [] [121] none) (.cd (aj (aj (aj (aj .z)))) .z)) (aj .z))))
def adl:An:=aj (aj .z)
def adm:An:=aj (aj .z)
def adn:An:=aj (aj (aj (.sq (some [0]) (aj (.cd (aj cW) (aj (aj (aj (aj (aj (aj cW)))))))) cW)))
def ado:An:=aj (aj .z)
def adp:An:=aj (.bk (aj (.cd (aj (aj (aj (aj cW)))) (aj (.cd cW (aj (.cd cW (aj cW))))))))
def adq:An:=aj (a7 (aj (.cd (aj (aj .z)) .z)) (aj (aj (.sq (some [0,2,4,6,7]) (aj (.cd cW .z)) (aj (a7 (aj (.bk (.lp [0,2,4,6,42] (aj (a7 (.cd .z .z) (.bk (aj (aj (.cd cW .z))))))))) (a7 (aj (.cd (aj .z) .z)) cW)))))))
def adr:An:=aj (aj (.bk (aj (.cd (aj (aj (.bk (.lp [0,18,19,20] (aj (a7 (.cd .z .z) (a7 (.bk (aj cW)) cW))))))) (aj (.cd cW (aj (.cd cW (aj (.cd cW (aj (.cd (aj (aj (aj (aj (aj (aj cW)))))) (aj (.cd (aj (aj cW)) (aj (.cd (aj cW) (aj (.cd (aj (aj (aj (aj cW)))) .z))))))))))))))))))
def ads:An:=aj (aj .z)
def adt:An:=aj (aj (.bk (aj (.cd cW (aj (.cd (aj cW) (aj (.cd (aj cW) (aj (.cd cW (aj (.cd (aj (aj (aj cW))) cW))))))))))))
def adu:An:=aj (aj (.bk (aj (.cd (aj (aj cW)) (aj (.cd cW (aj (.cd (aj (aj (aj cW))) (aj (.cd (aj (aj (aj (aj (aj cW))))) .z))))))))))
def adw:An:=aj (a7 (aj (.cd (aj .z) .z)) (aj .z))
def adx:An:=aj (aj (aj (aj .z)))
def ady:An:=aj (aj .z)
def adz:An:=aj (aj .z)
def adA:An:=aj (aj (aj .z))
def adB:An:=aj (a7 (aj (.bk (.lp [0,1,11,12,13] (aj (a7 (.cd .z .z) (a7 (.bk (aj (aj (a7 (aj (.bk (.lp [0,1,6,7,11,12,13,21,22,23] (aj (a7 (.cd .z .z) (a7 (.bk (aj cW)) cW)))))) (aj (a7 (.bk (.lp [0,1,6,7,10,11,12,13] (a7 (.sq (some [0,1,6,7,10,11,12,13,52]) (.rg [] [] (some ⟨[(true,0),(true,1),(true,2),(true,3),(true,4),(true,5),(true,6),(true,7),(true,8),(true,9),(true,10),(true,11),(true,12),(true,13),(true,14),(true,15),(true,16),(true,17),(true,18),(false,19),(true,20)],[⟨4294967296,1024,0⟩,⟨8589934592,1,0⟩,⟨17179869184,8589934592,2⟩,⟨34359738368,128,0⟩,⟨68719476736,51539607552,12⟩,⟨137438953472,73014444032,17⟩,⟨274877906944,137438953472,32⟩,⟨549755813888,274877907968,64⟩,⟨1099511627776,274877907008,64⟩,⟨2199023255552,1374389534720,320⟩,⟨4398046511104,3023656976384,704⟩,⟨8796093022208,4672924418048,1088⟩,⟨17592186044416,8796093022208,2112⟩,⟨35184372088832,17592186044480,4096⟩,⟨70368744177664,52776558133248,12288⟩,⟨140737488355328,17592186044417,4096⟩,⟨281474976710656,17592186045440,4096⟩,⟨562949953421312,439804651110400,102400⟩,⟨1125899906842624,580542139465728,135168⟩,⟨2251799813685248,1213860837064704,282624⟩,⟨4503599627370496,2269391999729664,528384⟩]⟩)) (.cd .z .z)) (.bk cW)))) (a7 (aj (.cd (aj .z) .z)) cW))))))) cW)))))) (aj .z))
def adC:An:=aj (a7 (aj (.bk (.lp [0,1,7,8] (aj (a7 (.cd .z .z) (a7 (.bk (aj (aj (.cd (aj .z) .z)))) cW)))))) (aj .z))
def adD:An:=aj (a7 (aj (aj (.cd (a7 (.rg [] [] (some ⟨[(true,0),(true,1),(true,2),(true,3),(true,4),(true,5),(true,6),(true,7),(true,8),(true,9),(true,10),(true,11)],[⟨8192,1,0⟩,⟨16384,128,0⟩,⟨32768,24576,3⟩,⟨65536,1,0⟩,⟨131072,128,0⟩,⟨262144,2,0⟩,⟨524288,262144,32⟩,⟨1048576,655360,80⟩,⟨2097152,1114112,136⟩,⟨16,32768,7⟩,⟨32,2097152,1023⟩,⟨64,0,2047⟩]⟩)) .z) .z))) (aj .z))
def adE:An:=aj (aj .z)
def adF:An:=aj (a7 (.bk (aj (.cd (aj .z) (aj (.cd (aj .z) (aj (.cd (aj .z) (aj (.cd (aj .z) (aj (.cd (aj .z) .z))))))))))) (aj .z))
def adG:An:=aj (a7 (aj (.bk (aj (.cd (aj .z) (aj (.cd (a7 (aj (aj (.cd (aj .z) .z))) (aj .z)) .z)))))) (aj (.bk (.lp [0,1,6] (.bk (a7 (.rg [] [] (some ⟨[(true,0),(true,1),(true,2),(true,3),(true,4),(true,5),(true,6),(false,7),(true,8),(true,9),(true,10),(true,11),(true,12),(true,13)],[⟨34359738368,1,0⟩,⟨68719476736,34359738368,1⟩,⟨137438953472,68719476736,2⟩,⟨274877906944,137438953472,4⟩,⟨549755813888,2,0⟩,⟨1099511627776,824633720832,24⟩,⟨2199023255552,1,0⟩,⟨4398046511104,2199023255552,64⟩,⟨8796093022208,5497558138880,160⟩,⟨17179869184,8796093022208,256⟩,⟨17592186044416,17179869184,512⟩,⟨35184372088832,17179869184,512⟩,⟨128,17592186044416,2047⟩,⟨256,35184372088832,8191⟩]⟩)) (a7 (aj (.cd (aj .z) .z)) (aj (aj (a7 (aj (.cd (aj (aj .z)) .z)) (aj (aj (.cd (aj .z) .z)))))))))))))
def adH:An:=aj (a7 (aj (.bk (.lp [0,1,7,8] (aj (a7 (.cd .z .z) (a7 (.bk (aj (aj (.cd (aj .z) .z)))) cW)))))) (aj .z))
def adI:An:=aj (.bk (.lp [0,7,8,9] (aj (a7 (.cd .z .z) (a7 (.bk (aj (aj (.sq (some [0,5,6,7,8,9]) (aj (.cd cW .z)) cW)))) cW)))))
def adJ:An:=cW
def adK:An:=aj (.bk (.lp [0,6,7,8] (aj (a7 (.cd .z .z) (a7 (.bk (aj (.sq (some [0,5,6,7,8]) (aj (.cd cW .z)) cW))) cW)))))
def adL:An:=.rg [] [] (some ⟨[(true,0),(true,1),(true,2),(true,3),(true,4),(true,5),(true,6),(true,7),(true,8),(false,9),(true,10),(true,11),(false,12)],[⟨16,1,0⟩,⟨32,1,0⟩,⟨64,32,2⟩,⟨128,64,4⟩,⟨256,128,8⟩,⟨512,2,0⟩,⟨1024,512,32⟩,⟨2048,1024,64⟩,⟨4096,2048,128⟩,⟨8192,4352,336⟩,⟨16384,16,1023⟩,⟨32768,16384,2047⟩,⟨0,40960,3071⟩]⟩)
def adM:An:=a7 (aj (.cd (aj .z) .z)) (aj (aj cW))
def adN:An:=aj (a7 (aj (.bk (.lp [1,13] (aj (a7 (.cd .z .z) (.bk (aj (aj (.bk (.lp [1,5,13,20] (aj (a7 (.cd .z .z) (.bk (aj (aj (.cd (aj .z) .z)))))))))))))))) (a7 (.bk (aj (.cd (aj .z) (aj (.cd (aj .z) (aj (.cd (aj .z) .z))))))) (aj .z)))
def adO:An:=aj (.bk (.lp [0,2,8,9,10] (aj (a7 (.cd .z .z) (a7 (.bk (aj (aj cW))) cW)))))
def adP:An:=aj (aj .z)
def adQ:An:=aj (a7 (aj (.bk (.lp [0,1,7,8] (aj (a7 (.cd .z .z) (a7 (.bk (aj (aj (.cd (aj .z) .z)))) cW)))))) (aj .z))
def adR:An:=aj (aj (a7 (aj (aj (.cd (aj (aj (.sq (some [6]) (aj (.cd cW .z)) (aj .z)))) .z))) (a7 (aj (.cd (aj (aj (aj .z))) .z)) (a7 (aj (.cd (aj (aj (aj .z))) .z)) (aj (aj (.sq (some [9]) (aj (.cd (aj (aj cW)) .z)) (aj .z))))))))
def adS:An:=aj (a7 (aj (aj (.cd (aj .z) .z))) (aj .z))
def adT:An:=aj (a7 (.bk (aj (.cd (aj (aj (aj (aj (aj (aj .z)))))) (aj (.cd (aj (aj (aj (aj (aj (aj (aj (aj (aj (aj (aj .z))))))))))) .z))))) (aj .z))
def adU:An:=aj (aj (aj (aj .z)))
def Rm:An:=a7 (.rg [2,3,4] [] none) (a7 (a7 (.rg [5,11,12] [] none) (a7 (.rg [13,14] [] none) (.cd (a7 (.rg [2,3,4,15] [] none) .z) .z))) (a7 (.rg [6,7] [] none) (a7 (a7 (.rg [16,17,18] [] none) (.bk (.lp [0,6,7,16,17,18] (a7 (.rg [19] [] none) (a7 (.cd .z .z) (.sq (some [0,6,7,16,17,18]) (.bk (a7 (.rg [8,9,20,21,22] [] none) (a7 (.rg [6,23,24,25] [] none) (a7 (.rg [26,27] [] none) (.bk (.sq (some [0,6,7,8,9,16,17,18,27,28]) (a7 (.rg [28,29] [] none) (.cd .z (.rg [28,30] [] none))) (.cd (.rg [7,31,32,33,34] [] none) (.sq (some [0,6,7,8,9,16,17,18,35]) (a7 (.rg [35,36] [] none) (.cd .z (.rg [35,37] [] none))) (.cd (a7 (.rg [10,38,39,40] [] none) (a7 (a7 (.rg [41,42,43,44,45,46,47,48,49,50,51,52,53,54,55,56,57] [] (some ⟨[(true,0),(true,1),(true,2),(true,3),(true,4),(true,5),(true,6),(true,7),(true,8),(true,9),(true,10),(true,11),(true,12),(true,13),(true,14),(true,15),(true,16)],[⟨2199023255552,1024,0⟩,⟨4398046511104,2199023255552,1⟩,⟨8796093022208,4398046511104,2⟩,⟨17592186044416,8796093022209,4⟩,⟨35184372088832,8796093022336,4⟩,⟨70368744177664,8796093023232,4⟩,⟨140737488355328,114349209288704,52⟩,⟨281474976710656,149533581377536,68⟩,⟨562949953421312,307863255777280,140⟩,⟨1125899906842624,571746046443520,260⟩,⟨2251799813685248,1134695999864832,516⟩,⟨4503599627370496,2260595906707456,1028⟩,⟨9007199254740992,8796093022720,4⟩,⟨18014398509481984,9015995347763200,4100⟩,⟨36028797018963968,18023194602504192,8196⟩,⟨72057594037927936,40541192739356672,18436⟩,⟨144115188075855872,72066390130950144,32772⟩]⟩)) (.cd (a7 (.rg [2,3,4,58] [] none) .z) .z)) (a7 (.rg [59,60,61,62,63,64,65,66,67,68,69,70,71,72] [] (some ⟨[(true,0),(true,1),(true,2),(true,3),(true,4),(true,5),(true,6),(true,7),(true,8),(true,9),(true,10),(true,11),(true,12),(false,13),(true,14),(false,15)],[⟨576460752303423488,64,0⟩,⟨1152921504606846976,256,0⟩,⟨2305843009213693952,64,0⟩,⟨4611686018427387904,128,0⟩,⟨9223372036854775808,1024,0⟩,⟨18446744073709551616,13835058055282163712,24⟩,⟨36893488147419103232,18446744073709551616,32⟩,⟨73786976294838206464,128,0⟩,⟨147573952589676412928,1024,0⟩,⟨295147905179352825856,221360928884514619392,384⟩,⟨590295810358705651712,295147905179352825856,512⟩,⟨1180591620717411303424,256,0⟩,⟨2361183241434822606848,1729382256910270464,1987⟩,⟨0,2951479051793528258560,6083⟩,⟨4722366482869645213696,39199331156632797184,16383⟩,⟨0,5902958103587056517120,32767⟩]⟩)) (.rg [7,73,74,75] [] none)))) .z))))))))) (.rg [18,76] [] none))))))) (a7 (a7 (.rg [77,78,79] [] none) (.cd (a7 (.rg [2,3,4,80,81,82] [] (some ⟨[(true,0),(true,1),(true,2),(true,3),(true,4),(true,5)],[⟨1208925819614629174706176,128,0⟩,⟨2417851639229258349412352,1208925819614629174706176,1⟩,⟨4835703278458516698824704,2417851639229258349412352,2⟩,⟨4,0,0⟩,⟨8,4835703278458516698824704,15⟩,⟨16,0,31⟩]⟩)) .z) .z)) (a7 (.rg [2,3,4,83] [] none) .z)))))
def agb:An:=aj (a7 (aj (.cd (aj .z) .z)) (aj (a7 (aj (.cd (aj .z) .z)) (aj (aj (aj (a7 (aj (.cd (a7 (.rg [] [17] none) .z) .z)) (aj (a7 (aj (.bk (.lp [1,5,8,10,13,16,17] (a7 (aj (.cd .z .z)) (.sq (some [1,5,8,10,13,16,17]) (.bk (aj (.cd cW .z))) cW))))) (a7 (aj (.cd (aj .z) .z)) (aj (a7 (.rg [] [] (some ⟨[(true,0),(true,1),(true,2),(true,3),(true,4),(true,5),(true,6),(true,7),(true,8),(true,9),(true,10),(true,11),(true,12),(true,13),(true,14)],[⟨170141183460469231731687303715884105728,1024,0⟩,⟨340282366920938463463374607431768211456,262144,0⟩,⟨680564733841876926926749214863536422912,510423550381407695195061911147652317184,3⟩,⟨1361129467683753853853498429727072845824,680564733841876926926749214863536422912,4⟩,⟨2722258935367507707706996859454145691648,1361129467683753853853498429727072845824,8⟩,⟨5444517870735015415413993718908291383296,1024,0⟩,⟨10889035741470030830827987437816582766592,8192,0⟩,⟨21778071482940061661655974875633165533184,262144,0⟩,⟨43556142965880123323311949751266331066368,32667107224410092492483962313449748299776,192⟩,⟨87112285931760246646623899502532662132736,43556142965880123323311949751266331066368,256⟩,⟨174224571863520493293247799005065324265472,92556803802495262062037893221440953516032,544⟩,⟨348449143727040986586495598010130648530944,174224571863520493293247799005065324265472,1024⟩,⟨696898287454081973172991196020261297061888,348449143727040986586495598010130648530944,2048⟩,⟨524288,2722258935367507707706996859454145691648,31⟩,⟨1048576,696898287454081973172991196020261297061888,16383⟩]⟩)) (a7 (.rg [] [] (some ⟨[(true,0),(true,1),(true,2),(true,3),(true,4),(true,5),(true,6),(true,7),(true,8),(true,9),(true,10),(true,11),(true,12),(true,13),(true,14),(true,15),(true,16),(true,17),(true,18),(true,19),(true,20),(false,21),(false,22),(true,23),(true,24)],[⟨2787593149816327892691964784081045188247552,256,0⟩,⟨5575186299632655785383929568162090376495104,524288,0⟩,⟨11150372599265311570767859136324180752990208,8362779449448983678075894352243135564742656,3⟩,⟨22300745198530623141535718272648361505980416,11150372599265311570767859136324180752990208,4⟩,⟨44601490397061246283071436545296723011960832,256,0⟩,⟨89202980794122492566142873090593446023921664,524288,0⟩,⟨178405961588244985132285746181186892047843328,89202980794122492566142873090593446023921664,32⟩,⟨356811923176489970264571492362373784095686656,1048576,0⟩,⟨713623846352979940529142984724747568191373312,579819375161796201679928675088857399155490816,208⟩,⟨1427247692705959881058285969449495136382746624,735924591551510563670678702997395929697353728,264⟩,⟨2854495385411919762116571938898990272765493248,1427247692705959881058285969449495136382746624,512⟩,⟨5708990770823839524233143877797980545530986496,256,0⟩,⟨11417981541647679048466287755595961091061972992,1048576,0⟩,⟨22835963083295358096932575511191922182123945984,11417981541647679048466287755595961091061972992,4096⟩,⟨45671926166590716193865151022383844364247891968,28544953854119197621165719388989902727654932480,10240⟩,⟨91343852333181432387730302044767688728495783936,48526421552002635955981722961282834637013385216,17408⟩,⟨182687704666362864775460604089535377456991567872,91343852333181432387730302044767688728495783936,32768⟩,⟨1393796574908163946345982392040522594123776,182687704666362864775460604089535377456991567872,65536⟩,⟨365375409332725729550921208179070754913983135744,1393796574908163946345982392040522594123776,131072⟩,⟨730750818665451459101842416358141509827966271488,1393796574908163946345982392040522594123776,131072⟩,⟨1461501637330902918203684832716283019655932542976,1393796574908163946345982392040522594123776,131072⟩,⟨2097152,0,0⟩,⟨0,365375409332725729550921208179070754913985232896,2621439⟩,⟨4194304,730750818665451459101842416358141509827966271488,7340031⟩,⟨8388608,1461501637330902918203684832716283019655932542976,16777215⟩]⟩)) (a7 (aj (.cd (aj .z) .z)) (aj (aj (a7 (.rg [] [17,22] none) .z)))))))))))))))))
section
variable (a0 a1 a2 a3 a4 a5 a6:AV) (R:cV->St->Prop) (U:St)
def LQ:Prop :=
 (ak aF a1 U).wp K U (λ v6 U =>
 (aw .add aR true v6 (.int .i64 1)).wp K U (λ v7 U =>
 fw 4 [a0,a2,a3,v7] U λ lp v0 v2 v3 v5 U =>
 (ak aF v2 U).wp K U (λ v9 U =>
 (aw .lss aR false v5 v9).wp K U (λ v10 U =>
 ao K (aM v10 true) (af (some 0) v3) (λ v12 =>
 ao K (aM v10 true) (af (some 0) v12) (λ cn =>
 ao K (aM v10 true) (ak aF cn U) (λ cA =>
 ao K (aM v10 true) (aC.val v5) (λ cz =>
 ao K (aM v10 true) (aE (some (43,6)) none cA cz) (λ cQ =>
 ao K (aM v10 true) (af (some 5) cQ) (λ dq =>
 ao K (aM v10 true) (ak aF dq U) (λ cw =>
 ao K (aM v10 true) (aw .gtr aR true cw (.int .i64 0)) (λ dt =>
 (bN v10 dt (.bool false)).wp K U (λ v20 U =>
 ax v20 (
 (jz K.P v0 [v5]).wp K U (λ gl U =>
 (lj .not gl).wp K U (λ gj U =>
 ax gj (
 aq R (.aK []) U) (
 (af (some 0) v3).wp K U (λ eo U =>
 (af (some 0) eo).wp K U (λ eO U =>
 (ak aF eO U).wp K U (λ v24 U =>
 (aE (some (43,6)) none v24 v5).wp K U (λ gi U =>
 (af (some 5) gi).wp K U (λ dX U =>
 (ak aF dX U).wp K U (λ v28 U =>
 (aw .add aR false v5 v28).wp K U (λ ef U =>
 lp v0 v2 v3 ef U) (aa R)) (aa R)) (aa R)) (aa R)) (aa R)) (aa R)) (aa R))) (aa R)) (aa R)) (
 aq R (.aK []) U)) (aa R)))))))))) (aa R)) (aa R)) (aa R)) (aa R)
def LR:Prop :=
 (fL a0).wp K U (λ v1 U =>
 (af (some 1) v1).wp K U (λ v6 U =>
 (ak aF v6 U).wp K U (λ v7 U =>
 ae K 77 [v7] U (ah (λ v8 U =>
 (aU v8 0).wp K U (λ v9 U =>
 (aU v8 1).wp K U (λ v10 U =>
 (aC.cL [.int .u8 0,.str [],.int .i64 0]).wp K U (λ v3 U =>
 (aI (some (true,3)) v3 v9 U).wp K U (λ _ U =>
 (aw .eql aR true v10 (.int .i64 0)).wp K U (λ v12 U =>
 ao K (aM v12 true) (af (some 0) v3) (λ cA =>
 ao K (aM v12 true) (ak aF cA U) (λ cz =>
 ao K (aM v12 true) (af (some 0) v1) (λ cQ =>
 ao K (aM v12 true) (ak aF cQ U) (λ dq =>
 ao K (aM v12 true) (aw .eql aR false cz dq) (λ cw =>
 (bN v12 cw (.bool false)).wp K U (λ dt U =>
 ao K (aM dt true) (af (some 1) v3) (λ v21 =>
 ao K (aM dt true) (ak aF v21 U) (λ eo =>
 ao K (aM dt true) (af (some 1) v1) (λ eO =>
 ao K (aM dt true) (ak aF eO U) (λ v24 =>
 ao K (aM dt true) (aw .eql aR false eo v24) (λ fh =>
 (bN dt fh (.bool false)).wp K U (λ gi U =>
 aq R gi U) (aa R))))))) (aa R))))))) (aa R)) (aa R)) (aa R)) (aa R)) (aa R)) (aa R))) (aa R)) (aa R)) (aa R)
def UP:Prop :=
 ae K 99 [a0,(.int .u8 10)] U (ah (λ v7 U =>
 (au (some (9,1)) (some [.str []]) 3 false [(0,(.str pg)),(1,(.str oL)),(2,(.str fe))]).wp K U (λ v8 U =>
 (cr (some false) v8).wp K U (λ v9 U =>
 fw 5 [a0,v7,v8,v9,(.int .i64 0)] U λ lp v0 v3 mK lM v10 U =>
 (aw .lss aR false v10 lM).wp K U (λ v11 U =>
 ax v11 (
 (aE (some (9,1)) none mK v10).wp K U (λ v12 U =>
 (ak aF v12 U).wp K U (λ cn U =>
 ae K 102 [v0,cn] U (ah (λ cQ U =>
 ae K 169 [v0] U (ah (λ dt U =>
 (au (some (87,1)) (some [.a8]) 1 false [(0,dt)]).wp K U (λ v20 U =>
 ae K 103 [v3,v20] U (ah (λ v21 U =>
 (aw .add aR true v10 (.int .i64 1)).wp K U (λ eo U =>
 lp v0 v3 mK lM eo U) (aa R)) (aa R))) (aa R)) (aa R))) (aa R))) (aa R)) (aa R)) (
 aq R v3 U)) (aa R)) (aa R)) (aa R)) (aa R))
def UR:Prop :=
 ae K 99 [a0,(.int .u8 11)] U (ah (λ v7 U =>
 (au (some (9,1)) (some [.str []]) 2 false [(0,(.str gH)),(1,(.str sY))]).wp K U (λ v8 U =>
 (cr (some false) v8).wp K U (λ v9 U =>
 fw 5 [a0,v7,v8,v9,(.int .i64 0)] U λ lp v0 v3 mK lM v10 U =>
 (aw .lss aR false v10 lM).wp K U (λ v11 U =>
 ax v11 (
 (aE (some (9,1)) none mK v10).wp K U (λ v12 U =>
 (ak aF v12 U).wp K U (λ cn U =>
 ae K 102 [v0,cn] U (ah (λ cQ U =>
 ae K 169 [v0] U (ah (λ dt U =>
 (au (some (87,1)) (some [.a8]) 1 false [(0,dt)]).wp K U (λ v20 U =>
 ae K 103 [v3,v20] U (ah (λ v21 U =>
 (aw .add aR true v10 (.int .i64 1)).wp K U (λ eo U =>
 lp v0 v3 mK lM eo U) (aa R)) (aa R))) (aa R)) (aa R))) (aa R))) (aa R)) (aa R)) (
 aq R v3 U)) (aa R)) (aa R)) (aa R)) (aa R))
def UT:Prop :=
 ae K 99 [a0,(.int .u8 12)] U (ah (λ v5 U =>
 ae K 102 [a0,(.str lY)] U (ah (λ v7 U =>
 ae K 101 [a0] U (ah (λ v10 U =>
 (aZ v5).wp K U (λ v11 U =>
 (af (some 0) v11).wp K U (λ v12 U =>
 (af (some 1) v12).wp K U (λ cn U =>
 (aI aF cn v10 U).wp K U (λ _ U =>
 ae K 102 [a0,(.str dk)] U (ah (λ cz U =>
 ae K 168 [a0] U (ah (λ cw U =>
 (aZ v5).wp K U (λ dt U =>
 (af (some 0) dt).wp K U (λ v20 U =>
 (af (some 2) v20).wp K U (λ v21 U =>
 (aI aF v21 cw U).wp K U (λ _ U =>
 ae K 102 [a0,(.str bQ)] U (ah (λ eO U =>
 ae K 168 [a0] U (ah (λ gi U =>
 (aZ v5).wp K U (λ dX U =>
 (af (some 0) dX).wp K U (λ v28 U =>
 (af (some 3) v28).wp K U (λ ef U =>
 (aI aF ef gi U).wp K U (λ _ U =>
 ae K 102 [a0,(.str kr)] U (ah (λ v31 U =>
 ae K 169 [a0] U (ah (λ hU U =>
 (au (some (87,1)) (some [.a8]) 1 false [(0,hU)]).wp K U (λ iC U =>
 ae K 103 [v5,iC] U (ah (λ ij U =>
 aq R ij U) (aa R))) (aa R)) (aa R))) (aa R))) (aa R)) (aa R)) (aa R)) (aa R)) (aa R))) (aa R))) (aa R)) (aa R)) (aa R)) (aa R)) (aa R))) (aa R))) (aa R)) (aa R)) (aa R)) (aa R)) (aa R))) (aa R))) (aa R))
def UW:Prop :=
 ae K 99 [a0,(.int .u8 13)] U (ah (λ v5 U =>
 ae K 102 [a0,(.str jb)] U (ah (λ v7 U =>
 ae K 101 [a0] U (ah (λ v10 U =>
 (aZ v5).wp K U (λ v11 U =>
 (af (some 0) v11).wp K U (λ v12 U =>
 (af (some 1) v12).wp K U (λ cn U =>
 (aI aF cn v10 U).wp K U (λ _ U =>
 ae K 102 [a0,(.str kr)] U (ah (λ cz U =>
 ae K 169 [a0] U (ah (λ cw U =>
 (au (some (87,1)) (some [.a8]) 1 false [(0,cw)]).wp K U (λ dt U =>
 ae K 103 [v5,dt] U (ah (λ v20 U =>
 ae K 102 [a0,(.str fe)] U (ah (λ eo U =>
 ae K 169 [a0] U (ah (λ fh U =>
 (au (some (87,1)) (some [.a8]) 1 false [(0,fh)]).wp K U (λ gi U =>
 ae K 103 [v5,gi] U (ah (λ dX U =>
 aq R dX U) (aa R))) (aa R)) (aa R))) (aa R))) (aa R))) (aa R)) (aa R))) (aa R))) (aa R)) (aa R)) (aa R)) (aa R)) (aa R))) (aa R))) (aa R))
def UY:Prop :=
 ae K 99 [a0,(.int .u8 15)] U (ah (λ v5 U =>
 ae K 102 [a0,(.str ia)] U (ah (λ v7 U =>
 ae K 169 [a0] U (ah (λ v10 U =>
 (au (some (87,1)) (some [.a8]) 1 false [(0,v10)]).wp K U (λ v11 U =>
 ae K 103 [v5,v11] U (ah (λ v12 U =>
 ae K 102 [a0,(.str fe)] U (ah (λ cA U =>
 ae K 169 [a0] U (ah (λ dq U =>
 (au (some (87,1)) (some [.a8]) 1 false [(0,dq)]).wp K U (λ cw U =>
 ae K 103 [v5,cw] U (ah (λ dt U =>
 aq R dt U) (aa R))) (aa R)) (aa R))) (aa R))) (aa R))) (aa R)) (aa R))) (aa R))) (aa R))
def U0:Prop :=
 ae K 99 [a0,(.int .u8 14)] U (ah (λ v5 U =>
 ae K 102 [a0,(.str iU)] U (ah (λ v7 U =>
 ae K 101 [a0] U (ah (λ v10 U =>
 (aZ v5).wp K U (λ v11 U =>
 (af (some 0) v11).wp K U (λ v12 U =>
 (af (some 1) v12).wp K U (λ cn U =>
 (aI aF cn v10 U).wp K U (λ _ U =>
 ae K 102 [a0,(.str bQ)] U (ah (λ cz U =>
 ae K 168 [a0] U (ah (λ cw U =>
 (aZ v5).wp K U (λ dt U =>
 (af (some 0) dt).wp K U (λ v20 U =>
 (af (some 2) v20).wp K U (λ v21 U =>
 (aI aF v21 cw U).wp K U (λ _ U =>
 ae K 102 [a0,(.str kr)] U (ah (λ eO U =>
 ae K 169 [a0] U (ah (λ gi U =>
 (au (some (87,1)) (some [.a8]) 1 false [(0,gi)]).wp K U (λ dX U =>
 ae K 103 [v5,dX] U (ah (λ v28 U =>
 aq R v28 U) (aa R))) (aa R)) (aa R))) (aa R))) (aa R)) (aa R)) (aa R)) (aa R)) (aa R))) (aa R))) (aa R)) (aa R)) (aa R)) (aa R)) (aa R))) (aa R))) (aa R))
def U2:Prop :=
 (λ ar:St =>
 az K (aZ a0) (λ v4 =>
 az K (af (some 1) v4) (λ v5 =>
 az K (ak aF v5 ar) (λ v6 =>
 az K (aZ a0) (λ v8 =>
 az K (af (some 0) v8) (λ v9 =>
 az K (ak aF v9 ar) (λ v10 =>
 az K (cr (some false) v10) (λ v11 =>
 az K (aw .lss aR false v6 v11) (λ v12 =>
 ax v12 (
 (λ lZ:St =>
 az K (aZ a0) (λ cA =>
 az K (af (some 0) cA) (λ cz =>
 az K (ak aF cz lZ) (λ cQ =>
 az K (aZ a0) (λ cw =>
 az K (af (some 1) cw) (λ dt =>
 az K (ak aF dt lZ) (λ v20 =>
 az K (aE (some (51,3)) none cQ v20) (λ v21 =>
 az K (af (some 2) v21) (λ eo =>
 az K (ak aF eo lZ) (λ eO =>
 aq R eO U)))))))))) U) (
 (aZ a0).wp K U (λ fh U =>
 (af (some 2) fh).wp K U (λ gi U =>
 (ak aF gi U).wp K U (λ dX U =>
 aq R dX U) (aa R)) (aa R)) (aa R))))))))))) U
def afo:Prop :=
 ae K 167 [a0,(.int .i64 0)] U (ah (λ v7 U =>
 (aC.cL [.int .u8 0,.str [],.int .i64 0]).wp K U (λ v5 U =>
 (aI (some (true,3)) v5 v7 U).wp K U (λ _ U =>
 jn 2 (λ v0 tR U =>
 (aZ v0).wp K U (λ cz U =>
 (af (some 1) cz).wp K U (λ cQ U =>
 (ak aF cQ U).wp K U (λ dq U =>
 (aw .add aR true dq (.int .i64 1)).wp K U (λ cw U =>
 (aZ v0).wp K U (λ dt U =>
 (af (some 1) dt).wp K U (λ v20 U =>
 (aI aF v20 cw U).wp K U (λ _ U =>
 (af (some 1) tR).wp K U (λ v21 U =>
 (ak aF v21 U).wp K U (λ eo U =>
 aq R eo U) (aa R)) (aa R)) (aa R)) (aa R)) (aa R)) (aa R)) (aa R)) (aa R)) (aa R)) λ j =>
 (af (some 0) v5).wp K U (λ v8 U =>
 (ak aF v8 U).wp K U (λ v9 U =>
 (aw .neq aR false v9 a1).wp K U (λ v11 U =>
 ax v11 (
 ae K 166 [a0] U (ah (λ cn U =>
 j a0 v5 U) (aa R))) (
 j a0 v5 U)) (aa R)) (aa R)) (aa R)) (aa R)) (aa R)) (aa R))
def afp:Prop :=
 ae K 164 [a0] U (ah (λ v3 U =>
 (ek (some [(0,1)]) (some [.int .i64 0]) none [(0,v3)]).wp K U (λ v4 U =>
 (zj true 136 v4).wp K U (λ v5 U =>
 (vP v5).wp K U (λ _ U =>
 aq R (.aK []) U) (aa R)) (aa R)) (aa R)) (aa R))
def U6:Prop :=
 (aC.cL [.int .u8 0,.str [],.int .i64 0]).wp K U (λ v4 U =>
 (λ ar:St =>
 az K (aZ a0) (λ v6 =>
 az K (af (some 1) v6) (λ v7 =>
 az K (ak aF v7 ar) (λ v8 =>
 az K (aw .add aR false v8 a1) (λ v10 =>
 az K (aZ a0) (λ v12 =>
 az K (af (some 0) v12) (λ cn =>
 az K (ak aF cn ar) (λ cA =>
 az K (cr (some false) cA) (λ cz =>
 az K (aw .lss aR false v10 cz) (λ cQ =>
 ax cQ (
 (λ lZ:St =>
 az K (aZ a0) (λ cw =>
 az K (af (some 0) cw) (λ dt =>
 az K (ak aF dt lZ) (λ v20 =>
 az K (aZ a0) (λ eo =>
 az K (af (some 1) eo) (λ eO =>
 az K (ak aF eO lZ) (λ v24 =>
 az K (aw .add aR false v24 a1) (λ gi =>
 az K (aE (some (51,3)) none v20 gi) (λ dX =>
 az K (ak (some (true,3)) dX lZ) (λ v28 =>
 (aI (some (true,3)) v4 v28 U).wp K U (λ _ U =>
 bD (some (true,3)) v4 U λ r0 =>
 aq R r0 U) (aa R))))))))))) U) (
 (ek (some [(0,1),(1,1),(2,1)]) (some [.int .u8 0,.str [],.int .i64 0]) none []).wp K U (λ ef U =>
 (aI (some (true,3)) v4 ef U).wp K U (λ _ U =>
 bD (some (true,3)) v4 U λ o8 =>
 aq R o8 U) (aa R)) (aa R)))))))))))) U) (aa R)
def afq:Prop :=
 ae K 165 [a0,(.int .u8 2)] U (ah (λ v7 U =>
 ae K 218 [v7] U (ah (λ v8 U =>
 (aU v8 0).wp K U (λ v9 U =>
 (aU v8 1).wp K U (λ v10 U =>
 jn 1 (λ v3 U =>
 aq R v3 U) λ j =>
 (aw .neq (BT.mk false true false none false) true v10 .dE).wp K U (λ v12 U =>
 ax v12 (
 ae K 166 [a0] U (ah (λ cA U =>
 j v9 U) (aa R))) (
 j v9 U)) (aa R)) (aa R)) (aa R)) (aa R))) (aa R))
def U9:Prop :=
 ae K 167 [a0,(.int .i64 0)] U (ah (λ v8 U =>
 (aC.cL [.int .u8 0,.str [],.int .i64 0]).wp K U (λ v3 U =>
 (aI (some (true,3)) v3 v8 U).wp K U (λ _ U =>
 (λ ar:St =>
 az K (aZ a0) (λ v11 =>
 az K (af (some 4) v11) (λ v12 =>
 az K (ak aF v12 ar) (λ cn =>
 az K (af (some 1) v3) (λ cA =>
 az K (ak aF cA ar) (λ cz =>
 az K (eQ (some (.s,186)) (some .eA) cn cz true ar) (λ cQ =>
 az K (aU cQ 0) (λ dq =>
 az K (aU cQ 1) (λ cw =>
 ao K (aM cw true) (af (some 0) v3) (λ v21 =>
 ao K (aM cw true) (ak aF v21 U) (λ eo =>
 ao K (aM cw true) (aw .eql aR true eo (.int .u8 3)) (λ eO =>
 (bN cw eO (.bool false)).wp K U (λ v24 U =>
 ax v24 (
 (jz K.P dq [a0]).wp K U (λ dX U =>
 aq R dX U) (aa R)) (
 jn 2 (λ v0 ij U =>
 ax ij (
 ae K 99 [v0,(.int .u8 16)] U (ah (λ iZ U =>
 ae K 101 [v0] U (ah (λ kM U =>
 (aZ iZ).wp K U (λ fD U =>
 (af (some 0) fD).wp K U (λ kj U =>
 (af (some 1) kj).wp K U (λ lE U =>
 (aI aF lE kM U).wp K U (λ _ U =>
 ae K 102 [v0,(.str bQ)] U (ah (λ v46 U =>
 ae K 169 [v0] U (ah (λ v49 U =>
 (au (some (87,1)) (some [.a8]) 1 false [(0,v49)]).wp K U (λ ji U =>
 ae K 103 [iZ,ji] U (ah (λ v51 U =>
 aq R v51 U) (aa R))) (aa R)) (aa R))) (aa R))) (aa R)) (aa R)) (aa R)) (aa R)) (aa R))) (aa R))) (
 ae K 219 [v0,(.int .i64 2)] U (ah (λ v53 U =>
 aq R v53 U) (aa R)))) λ j =>
 (af (some 0) v3).wp K U (λ v28 U =>
 (ak aF v28 U).wp K U (λ ef U =>
 (aw .eql aR true ef (.int .u8 1)).wp K U (λ v30 U =>
 ao K (aM v30 true) (aC.val a0) (λ gl =>
 ax (aM v30 true) (
 ae K 167 [gl,(.int .i64 1)] U (ah (λ gj U =>
 ao K (aM v30 true) (au (some (9,1)) (some [.str []]) 1 false [(0,(.str bQ))]) (λ hU =>
 ao K (aM v30 true) (aC.enter 121 [gj,hU]) (λ iC =>
 (bN v30 iC (.bool false)).wp K U (λ rz U =>
 j a0 rz U) (aa R)))) (aa R))) (
 ao K (aM v30 true) (au (some (9,1)) (some [.str []]) 1 false [(0,(.str bQ))]) (λ FJ =>
 ao K (aM v30 true) (aC.enter 121 [(.aK []),FJ]) (λ FL =>
 (bN v30 FL (.bool false)).wp K U (λ ahI U =>
 j a0 ahI U) (aa R)))))) (aa R)) (aa R)) (aa R))) (aa R))))))))))))) U) (aa R)) (aa R)) (aa R))
def afr:Prop :=
 ae K 230 [a0,a1] U (ah (λ v7 U =>
 (aw .geq aR true v7 (.int .i64 0)).wp K U (λ v8 U =>
 aq R v8 U) (aa R)) (aa R))
def Vc:Prop :=
 (aw .geq aR true a0 (.int .u8 2)).wp K U (λ v4 U =>
 ao K (aM v4 true) (aC.val a0) (λ v6 =>
 ao K (aM v4 true) (aw .leq aR true v6 (.int .u8 4)) (λ v7 =>
 (bN v4 v7 (.bool false)).wp K U (λ v8 U =>
 aq R v8 U) (aa R)))) (aa R)
def Ve:Prop :=
 (fL a1).wp K U (λ v4 U =>
 (aC.wP).wp K U (λ v8 U =>
 (eB (some (.i,9)) v8 (.int .u8 2) (.str dY) U).wp K U (λ _ U =>
 (eB (some (.i,9)) v8 (.int .u8 3) (.str gg) U).wp K U (λ _ U =>
 (eB (some (.i,9)) v8 (.int .u8 4) (.str dQ) U).wp K U (λ _ U =>
 (af (some 0) v4).wp K U (λ v10 U =>
 (ak aF v10 U).wp K U (λ v11 U =>
 (eQ (some (.i,9)) (some (.str [])) v8 v11 false U).wp K U (λ v12 U =>
 (au (some (9,1)) (some [.str []]) 1 false [(0,v12)]).wp K U (λ cn U =>
 ae K 231 [a0,cn] U (ah (λ cA U =>
 (af (some 1) v4).wp K U (λ cQ U =>
 (ak aF cQ U).wp K U (λ dq U =>
 ae K 232 [a0,dq] U (ah (λ cw U =>
 jn 1 (λ v0 U =>
 (au (some (9,1)) (some [.str []]) 1 false [(0,(.str cC))]).wp K U (λ nV U =>
 ae K 231 [v0,nV] U (ah (λ yC U =>
 aq R (.aK []) U) (aa R))) (aa R)) λ j =>
 (af (some 0) v4).wp K U (λ dt U =>
 (ak aF dt U).wp K U (λ v20 U =>
 (aw .eql aR true v20 (.int .u8 2)).wp K U (λ v21 U =>
 ax v21 (
 (au (some (9,1)) (some [.str []]) 1 false [(0,(.str dk))]).wp K U (λ eO U =>
 ae K 231 [a0,eO] U (ah (λ v24 U =>
 (aE (some (3,1)) none a2 (.int .i64 0)).wp K U (λ dX U =>
 (ak aF dX U).wp K U (λ v28 U =>
 ae K 123 [a0,v28] U (ah (λ ef U =>
 j a0 U) (aa R))) (aa R)) (aa R)) (aa R))) (aa R)) (
 (cr (some false) a2).wp K U (λ v31 U =>
 (aw .sub aR true v31 (.int .i64 2)).wp K U (λ gl U =>
 (au (some (9,1)) (some [.str []]) 1 false [(0,(.str bK))]).wp K U (λ hU U =>
 ae K 231 [a0,hU] U (ah (λ iC U =>
 (eD false (some (3,1)) a2 none (some gl)).wp K U (λ lD U =>
 ae K 233 [a0,lD] U (ah (λ v40 U =>
 (au (some (9,1)) (some [.str []]) 2 false [(0,(.str bJ)),(1,(.str dk))]).wp K U (λ fD U =>
 ae K 231 [a0,fD] U (ah (λ kj U =>
 (aE (some (3,1)) none a2 gl).wp K U (λ nB U =>
 (ak aF nB U).wp K U (λ ri U =>
 ae K 123 [a0,ri] U (ah (λ v49 U =>
 (au (some (9,1)) (some [.str []]) 1 false [(0,(.str gP))]).wp K U (λ v51 U =>
 ae K 231 [a0,v51] U (ah (λ mU U =>
 (aw .add aR true gl (.int .i64 1)).wp K U (λ oI U =>
 (aE (some (3,1)) none a2 oI).wp K U (λ oJ U =>
 (ak aF oJ U).wp K U (λ qn U =>
 ae K 123 [a0,qn] U (ah (λ v59 U =>
 j a0 U) (aa R))) (aa R)) (aa R)) (aa R)) (aa R))) (aa R)) (aa R))) (aa R)) (aa R)) (aa R))) (aa R)) (aa R))) (aa R)) (aa R))) (aa R)) (aa R)) (aa R))) (aa R)) (aa R)) (aa R)) (aa R))) (aa R)) (aa R)) (aa R))) (aa R)) (aa R)) (aa R)) (aa R)) (aa R)) (aa R)) (aa R)) (aa R)) (aa R)
def Vg:Prop :=
 ae K 206 [a0] U (ah (λ v4 U =>
 ao K (aM v4 false) (aC.val a0) (λ v6 =>
 ao K (aM v4 false) (aw .eql aR true v6 (.int .u8 8)) (λ v7 =>
 (bN v4 (.bool true) v7).wp K U (λ v8 U =>
 aq R v8 U) (aa R)))) (aa R))
def LS:Prop :=
 (fL a1).wp K U (λ v4 U =>
 (af (some 0) v4).wp K U (λ v20 U =>
 (ak aF v20 U).wp K U (λ v21 U =>
 (aw .eql aR true v21 (.int .u8 8)).wp K U (λ eo U =>
 ax eo (
 (cr (some false) a2).wp K U (λ v24 U =>
 (aw .sub aR true v24 (.int .i64 1)).wp K U (λ fh U =>
 (au (some (9,1)) (some [.str []]) 1 false [(0,(.str bK))]).wp K U (λ dX U =>
 ae K 231 [a0,dX] U (ah (λ v28 U =>
 (eD false (some (3,1)) a2 none (some fh)).wp K U (λ gl U =>
 ae K 233 [a0,gl] U (ah (λ gj U =>
 (au (some (9,1)) (some [.str []]) 2 false [(0,(.str bJ)),(1,(.str fY))]).wp K U (λ iC U =>
 ae K 231 [a0,iC] U (ah (λ ij U =>
 (aE (some (3,1)) none a2 fh).wp K U (λ v40 U =>
 (ak aF v40 U).wp K U (λ kM U =>
 ae K 123 [a0,kM] U (ah (λ fD U =>
 aq R (.aK []) U) (aa R))) (aa R)) (aa R)) (aa R))) (aa R)) (aa R))) (aa R)) (aa R))) (aa R)) (aa R)) (aa R)) (
 (af (some 0) v4).wp K U (λ lE U =>
 (ak aF lE U).wp K U (λ mg U =>
 (aw .eql aR true mg (.int .u8 6)).wp K U (λ v46 U =>
 ao K (aM v46 true) (af (some 2) v4) (λ ri =>
 ao K (aM v46 true) (ak aF ri U) (λ v49 =>
 ao K (aM v46 true) (aw .eql aR true v49 (.int .i64 1)) (λ ji =>
 (bN v46 ji (.bool false)).wp K U (λ v51 U =>
 ax v51 (
 (au (some (9,1)) (some [.str []]) 1 false [(0,(.str pX))]).wp K U (λ v53 U =>
 ae K 231 [a0,v53] U (ah (λ nC U =>
 aq R (.aK []) U) (aa R))) (aa R)) (
 (af (some 0) v4).wp K U (λ oI U =>
 (ak aF oI U).wp K U (λ oJ U =>
 (aw .eql aR true oJ (.int .u8 6)).wp K U (λ qn U =>
 ao K (aM qn true) (af (some 2) v4) (λ yB =>
 ao K (aM qn true) (ak aF yB U) (λ nV =>
 ao K (aM qn true) (aw .eql aR true nV (.int .i64 2)) (λ yC =>
 (bN qn yC (.bool false)).wp K U (λ rj U =>
 ax rj (
 (au (some (9,1)) (some [.str []]) 1 false [(0,(.str lP))]).wp K U (λ pW U =>
 ae K 231 [a0,pW] U (ah (λ BQ U =>
 aq R (.aK []) U) (aa R))) (aa R)) (
 (aC.wP).wp K U (λ v8 U =>
 (eB (some (.i,9)) v8 (.int .u8 6) (.str gY) U).wp K U (λ _ U =>
 (eB (some (.i,9)) v8 (.int .u8 7) (.str ky) U).wp K U (λ _ U =>
 (af (some 0) v4).wp K U (λ v10 U =>
 (ak aF v10 U).wp K U (λ v11 U =>
 (eQ (some (.i,9)) (some (.str [])) v8 v11 false U).wp K U (λ v12 U =>
 (au (some (9,1)) (some [.str []]) 1 false [(0,v12)]).wp K U (λ cn U =>
 ae K 231 [a0,cn] U (ah (λ cA U =>
 (af (some 2) v4).wp K U (λ cQ U =>
 (ak aF cQ U).wp K U (λ dq U =>
 ae K 234 [a0,dq] U (ah (λ cw U =>
 aq R (.aK []) U) (aa R))) (aa R)) (aa R)) (aa R))) (aa R)) (aa R)) (aa R)) (aa R)) (aa R)) (aa R)) (aa R))) (aa R))))) (aa R)) (aa R)) (aa R))) (aa R))))) (aa R)) (aa R)) (aa R))) (aa R)) (aa R)) (aa R)) (aa R)
def LU:Prop :=
 (fL a1).wp K U (λ v4 U =>
 (af (some 0) v4).wp K U (λ v10 U =>
 (ak aF v10 U).wp K U (λ v11 U =>
 (aw .eql aR true v11 (.int .u8 19)).wp K U (λ v12 U =>
 ax v12 (
 (au (some (9,1)) (some [.str []]) 1 false [(0,(.str qD))]).wp K U (λ cA U =>
 ae K 231 [a0,cA] U (ah (λ cz U =>
 (aE (some (3,1)) none a2 (.int .i64 0)).wp K U (λ cw U =>
 (ak aF cw U).wp K U (λ dt U =>
 ae K 235 [a0,dt,(.int .i64 4)] U (ah (λ v20 U =>
 aq R (.aK []) U) (aa R))) (aa R)) (aa R)) (aa R))) (aa R)) (
 (af (some 0) v4).wp K U (λ eo U =>
 (ak aF eo U).wp K U (λ eO U =>
 ae K 236 [a0,eO] U (ah (λ v24 U =>
 jn 5 (λ v0 v2 oH v6 v7 U =>
 (aE (some (3,1)) none v2 (.int .i64 0)).wp K U (λ gl U =>
 (ak aF gl U).wp K U (λ gj U =>
 ae K 235 [v0,gj,v7] U (ah (λ iC U =>
 (aZ v0).wp K U (λ v37 U =>
 (af (some 2) v37).wp K U (λ iZ U =>
 (ak aF iZ U).wp K U (λ lD U =>
 (eQ (some (.i,185)) (some .kx) lD v6 false U).wp K U (λ kM U =>
 (vU (some (.s,5)) kM).wp K U (λ fD U =>
 fw 5 [v0,v2,oH,v6,fD] U λ lp iM ko Re pe CA U =>
 (tY CA U).wp K U (λ kj U =>
 (aU kj 0).wp K U (λ lE U =>
 ax lE (
 (oe CA U).wp K U (λ mg U =>
 (aU mg 0).wp K U (λ v46 U =>
 (aU mg 1).wp K U (λ nB U =>
 (af (some 0) Re).wp K U (λ v49 U =>
 (ak aF v49 U).wp K U (λ ji U =>
 (aw .eql aR false nB ji).wp K U (λ v51 U =>
 ax v51 (
 (au (some (9,1)) (some [.str []]) 1 false [(0,v46)]).wp K U (λ nC U =>
 ae K 231 [iM,nC] U (ah (λ mJ U =>
 lp iM ko Re pe CA U) (aa R))) (aa R)) (
 lp iM ko Re pe CA U)) (aa R)) (aa R)) (aa R)) (aa R)) (aa R)) (aa R)) (
 (aw .eql aR true pe (.int .i64 8)).wp K U (λ oJ U =>
 ax oJ (
 (af (some 2) Re).wp K U (λ v59 U =>
 (ak aF v59 U).wp K U (λ yB U =>
 ae K 234 [iM,yB] U (ah (λ nV U =>
 aq R (.aK []) U) (aa R))) (aa R)) (aa R)) (
 (aE (some (3,1)) none ko (.int .i64 1)).wp K U (λ qo U =>
 (ak aF qo U).wp K U (λ pW U =>
 (aw .add aR true pe (.int .i64 1)).wp K U (λ td U =>
 ae K 235 [iM,pW,td] U (ah (λ sV U =>
 aq R (.aK []) U) (aa R))) (aa R)) (aa R)) (aa R))) (aa R))) (aa R)) (aa R)) (aa R)) (aa R)) (aa R)) (aa R)) (aa R)) (aa R))) (aa R)) (aa R)) λ j =>
 (aw .eql aR true v24 (.int .i64 5)).wp K U (λ dX U =>
 ax dX (
 (aw .add aR true v24 (.int .i64 1)).wp K U (λ ef U =>
 j a0 a2 v4 v24 ef U) (aa R)) (
 j a0 a2 v4 v24 v24 U)) (aa R)) (aa R))) (aa R)) (aa R))) (aa R)) (aa R)) (aa R)) (aa R)
def uu:Prop :=
 (fL a1).wp K U (λ v4 U =>
 (af (some 0) v4).wp K U (λ v8 U =>
 (ak aF v8 U).wp K U (λ v9 U =>
 (aw .eql aR true v9 (.int .u8 9)).wp K U (λ v11 U =>
 ax v11 (
 (aE (some (3,1)) none a2 (.int .i64 0)).wp K U (λ cA U =>
 (ak aF cA U).wp K U (λ cz U =>
 ae K 235 [a0,cz,(.int .i64 1)] U (ah (λ cQ U =>
 (eD false (some (3,1)) a2 (some (.int .i64 1)) none).wp K U (λ cw U =>
 (cr (some false) cw).wp K U (λ dt U =>
 fw 4 [a0,cw,dt,(.int .i64 0)] U λ lp v0 Ju aaT v20 U =>
 (aw .lss aR false v20 aaT).wp K U (λ v21 U =>
 ax v21 (
 (aE (some (3,1)) none Ju v20).wp K U (λ eo U =>
 (ak aF eo U).wp K U (λ eO U =>
 (au (some (3,1)) (some [.int .i64 0]) 1 false [(0,eO)]).wp K U (λ gi U =>
 (au (some (9,1)) (some [.str []]) 1 false [(0,(.str cC))]).wp K U (λ dX U =>
 ae K 237 [v0,gi,dX] U (ah (λ v28 U =>
 (aw .add aR true v20 (.int .i64 1)).wp K U (λ ef U =>
 lp v0 Ju aaT ef U) (aa R)) (aa R))) (aa R)) (aa R)) (aa R)) (aa R)) (
 aq R (.aK []) U)) (aa R)) (aa R)) (aa R)) (aa R))) (aa R)) (aa R)) (
 (aw .eql aR true v9 (.int .u8 10)).wp K U (λ v31 U =>
 ax v31 (
 (au (some (9,1)) (some [.str []]) 3 false [(0,(.str pg)),(1,(.str oL)),(2,(.str fe))]).wp K U (λ hU U =>
 ae K 237 [a0,a2,hU] U (ah (λ iC U =>
 aq R (.aK []) U) (aa R))) (aa R)) (
 (aw .eql aR true v9 (.int .u8 11)).wp K U (λ v37 U =>
 ax v37 (
 (au (some (9,1)) (some [.str []]) 2 false [(0,(.str gH)),(1,(.str sY))]).wp K U (λ v40 U =>
 ae K 237 [a0,a2,v40] U (ah (λ kM U =>
 aq R (.aK []) U) (aa R))) (aa R)) (
 (aw .eql aR true v9 (.int .u8 15)).wp K U (λ kj U =>
 ax kj (
 (au (some (9,1)) (some [.str []]) 2 false [(0,(.str ia)),(1,(.str fe))]).wp K U (λ v46 U =>
 ae K 237 [a0,a2,v46] U (ah (λ nB U =>
 aq R (.aK []) U) (aa R))) (aa R)) (
 (aw .eql aR true v9 (.int .u8 12)).wp K U (λ v49 U =>
 ax v49 (
 (au (some (9,1)) (some [.str []]) 1 false [(0,(.str lY))]).wp K U (λ v51 U =>
 ae K 231 [a0,v51] U (ah (λ mU U =>
 (af (some 1) v4).wp K U (λ nC U =>
 (ak aF nC U).wp K U (λ mJ U =>
 ae K 232 [a0,mJ] U (ah (λ oI U =>
 (au (some (9,1)) (some [.str []]) 1 false [(0,(.str dk))]).wp K U (λ qn U =>
 ae K 231 [a0,qn] U (ah (λ v59 U =>
 (af (some 2) v4).wp K U (λ nV U =>
 (ak aF nV U).wp K U (λ yC U =>
 ae K 234 [a0,yC] U (ah (λ rj U =>
 (au (some (9,1)) (some [.str []]) 1 false [(0,(.str bQ))]).wp K U (λ pW U =>
 ae K 231 [a0,pW] U (ah (λ BQ U =>
 (af (some 3) v4).wp K U (λ sV U =>
 (ak aF sV U).wp K U (λ sh U =>
 ae K 234 [a0,sh] U (ah (λ v70 U =>
 (au (some (9,1)) (some [.str []]) 1 false [(0,(.str kr))]).wp K U (λ Di U =>
 ae K 237 [a0,a2,Di] U (ah (λ wY U =>
 aq R (.aK []) U) (aa R))) (aa R)) (aa R))) (aa R)) (aa R)) (aa R))) (aa R)) (aa R))) (aa R)) (aa R)) (aa R))) (aa R)) (aa R))) (aa R)) (aa R)) (aa R))) (aa R)) (
 (aw .eql aR true v9 (.int .u8 13)).wp K U (λ v76 U =>
 ax v76 (
 (au (some (9,1)) (some [.str []]) 1 false [(0,(.str jb))]).wp K U (λ yD U =>
 ae K 231 [a0,yD] U (ah (λ IL U =>
 (af (some 1) v4).wp K U (λ IM U =>
 (ak aF IM U).wp K U (λ IN U =>
 ae K 232 [a0,IN] U (ah (λ v83 U =>
 (au (some (9,1)) (some [.str []]) 2 false [(0,(.str kr)),(1,(.str fe))]).wp K U (λ v86 U =>
 ae K 237 [a0,a2,v86] U (ah (λ v87 U =>
 aq R (.aK []) U) (aa R))) (aa R)) (aa R))) (aa R)) (aa R)) (aa R))) (aa R)) (
 (aw .eql aR true v9 (.int .u8 16)).wp K U (λ v89 U =>
 ax v89 (
 (af (some 1) v4).wp K U (λ v91 U =>
 (ak aF v91 U).wp K U (λ v92 U =>
 ae K 232 [a0,v92] U (ah (λ v93 U =>
 (au (some (9,1)) (some [.str []]) 1 false [(0,(.str bQ))]).wp K U (λ O7 U =>
 ae K 237 [a0,a2,O7] U (ah (λ v97 U =>
 aq R (.aK []) U) (aa R))) (aa R)) (aa R))) (aa R)) (aa R)) (
 (aw .eql aR true v9 (.int .u8 14)).wp K U (λ Wl U =>
 ax Wl (
 (au (some (9,1)) (some [.str []]) 1 false [(0,(.str iU))]).wp K U (λ Mr U =>
 ae K 231 [a0,Mr] U (ah (λ xG U =>
 (af (some 1) v4).wp K U (λ Ms U =>
 (ak aF Ms U).wp K U (λ v105 U =>
 ae K 232 [a0,v105] U (ah (λ Q5 U =>
 (au (some (9,1)) (some [.str []]) 1 false [(0,(.str bQ))]).wp K U (λ YW U =>
 ae K 231 [a0,YW] U (ah (λ v109 U =>
 (af (some 2) v4).wp K U (λ YY U =>
 (ak aF YY U).wp K U (λ YZ U =>
 ae K 234 [a0,YZ] U (ah (λ afE U =>
 (au (some (9,1)) (some [.str []]) 1 false [(0,(.str kr))]).wp K U (λ Mt U =>
 ae K 237 [a0,a2,Mt] U (ah (λ v117 U =>
 aq R (.aK []) U) (aa R))) (aa R)) (aa R))) (aa R)) (aa R)) (aa R))) (aa R)) (aa R))) (aa R)) (aa R)) (aa R))) (aa R)) (
 aq R (.aK []) U)) (aa R))) (aa R))) (aa R))) (aa R))) (aa R))) (aa R))) (aa R))) (aa R)) (aa R)) (aa R)) (aa R)
def Vi:Prop :=
 (aw .geq aR true a0 (.int .u8 9)).wp K U (λ v4 U =>
 ao K (aM v4 true) (aC.val a0) (λ v6 =>
 ao K (aM v4 true) (aw .leq aR true v6 (.int .u8 34)) (λ v7 =>
 (bN v4 v7 (.bool false)).wp K U (λ v8 U =>
 aq R v8 U) (aa R)))) (aa R)
def vW:Prop :=
 (fL a1).wp K U (λ v4 U =>
 (af (some 0) v4).wp K U (λ v6 U =>
 (ak aF v6 U).wp K U (λ v7 U =>
 (aw .eql aR true v7 (.int .u8 26)).wp K U (λ dq U =>
 ax dq (
 (af (some 2) v4).wp K U (λ dt U =>
 (ak aF dt U).wp K U (λ v20 U =>
 ae K 234 [a0,v20] U (ah (λ v21 U =>
 aq R (.aK []) U) (aa R))) (aa R)) (aa R)) (
 (aw .eql aR true v7 (.int .u8 31)).wp K U (λ eO U =>
 ax eO (
 (au (some (9,1)) (some [.str []]) 1 false [(0,(.str kz))]).wp K U (λ fh U =>
 ae K 231 [a0,fh] U (ah (λ gi U =>
 (af (some 1) v4).wp K U (λ v28 U =>
 (ak aF v28 U).wp K U (λ ef U =>
 ae K 232 [a0,ef] U (ah (λ v30 U =>
 aq R (.aK []) U) (aa R))) (aa R)) (aa R)) (aa R))) (aa R)) (
 (aw .eql aR true v7 (.int .u8 32)).wp K U (λ gl U =>
 ax gl (
 (au (some (9,1)) (some [.str []]) 1 false [(0,(.str mT))]).wp K U (λ hU U =>
 ae K 231 [a0,hU] U (ah (λ iC U =>
 (af (some 1) v4).wp K U (λ v37 U =>
 (ak aF v37 U).wp K U (λ iZ U =>
 ae K 232 [a0,iZ] U (ah (λ lD U =>
 aq R (.aK []) U) (aa R))) (aa R)) (aa R)) (aa R))) (aa R)) (
 (aw .eql aR true v7 (.int .u8 33)).wp K U (λ kM U =>
 ax kM (
 (af (some 1) v4).wp K U (λ kj U =>
 (ak aF kj U).wp K U (λ lE U =>
 ae K 232 [a0,lE] U (ah (λ mg U =>
 aq R (.aK []) U) (aa R))) (aa R)) (aa R)) (
 (aw .eql aR true v7 (.int .u8 34)).wp K U (λ nB U =>
 ax nB (
 (af (some 1) v4).wp K U (λ v49 U =>
 (ak aF v49 U).wp K U (λ ji U =>
 ae K 232 [a0,ji] U (ah (λ v51 U =>
 (au (some (9,1)) (some [.str []]) 1 false [(0,(.str bK))]).wp K U (λ v53 U =>
 ae K 231 [a0,v53] U (ah (λ nC U =>
 ae K 233 [a0,a2] U (ah (λ oJ U =>
 (au (some (9,1)) (some [.str []]) 1 false [(0,(.str bJ))]).wp K U (λ v59 U =>
 ae K 231 [a0,v59] U (ah (λ yB U =>
 aq R (.aK []) U) (aa R))) (aa R)) (aa R))) (aa R))) (aa R)) (aa R))) (aa R)) (aa R)) (
 (aC.wP).wp K U (λ v9 U =>
 (eB (some (.i,9)) v9 (.int .u8 27) (.str dN) U).wp K U (λ _ U =>
 (eB (some (.i,9)) v9 (.int .u8 28) (.str dR) U).wp K U (λ _ U =>
 (eB (some (.i,9)) v9 (.int .u8 29) (.str fU) U).wp K U (λ _ U =>
 (eB (some (.i,9)) v9 (.int .u8 30) (.str ik) U).wp K U (λ _ U =>
 (af (some 0) v4).wp K U (λ v11 U =>
 (ak aF v11 U).wp K U (λ v12 U =>
 (eQ (some (.i,9)) (some (.str [])) v9 v12 false U).wp K U (λ cn U =>
 (au (some (9,1)) (some [.str []]) 1 false [(0,cn)]).wp K U (λ cA U =>
 ae K 231 [a0,cA] U (ah (λ cz U =>
 aq R (.aK []) U) (aa R))) (aa R)) (aa R)) (aa R)) (aa R)) (aa R)) (aa R)) (aa R)) (aa R)) (aa R))) (aa R))) (aa R))) (aa R))) (aa R))) (aa R)) (aa R)) (aa R)) (aa R)
def BI:Prop :=
 (fL a1).wp K U (λ v4 U =>
 (af (some 0) v4).wp K U (λ v7 U =>
 (ak aF v7 U).wp K U (λ v8 U =>
 (aw .eql aR true v8 (.int .u8 5)).wp K U (λ v10 U =>
 ax v10 (
 (af (some 1) v4).wp K U (λ v12 U =>
 (ak aF v12 U).wp K U (λ cn U =>
 ae K 232 [a0,cn] U (ah (λ cA U =>
 (au (some (9,1)) (some [.str []]) 1 false [(0,(.str dk))]).wp K U (λ cQ U =>
 ae K 231 [a0,cQ] U (ah (λ dq U =>
 (aE (some (3,1)) none a2 (.int .i64 0)).wp K U (λ v20 U =>
 (ak aF v20 U).wp K U (λ v21 U =>
 ae K 123 [a0,v21] U (ah (λ eo U =>
 aq R (.aK []) U) (aa R))) (aa R)) (aa R)) (aa R))) (aa R)) (aa R))) (aa R)) (aa R)) (
 (aw .eql aR true v8 (.int .u8 37)).wp K U (λ v24 U =>
 ax v24 (
 (af (some 1) v4).wp K U (λ gi U =>
 (ak aF gi U).wp K U (λ dX U =>
 ae K 232 [a0,dX] U (ah (λ v28 U =>
 aq R (.aK []) U) (aa R))) (aa R)) (aa R)) (
 (aw .eql aR true v8 (.int .u8 35)).wp K U (λ v30 U =>
 ax v30 (
 (cr (some false) a2).wp K U (λ gl U =>
 (aw .sub aR true gl (.int .i64 1)).wp K U (λ gj U =>
 (au (some (9,1)) (some [.str []]) 2 false [(0,(.str rO)),(1,(.str bK))]).wp K U (λ iC U =>
 ae K 231 [a0,iC] U (ah (λ ij U =>
 (eD false (some (3,1)) a2 none (some gj)).wp K U (λ v40 U =>
 ae K 233 [a0,v40] U (ah (λ kM U =>
 (eD false (some (3,1)) a2 (some gj) none).wp K U (λ mg U =>
 (au (some (9,1)) (some [.str []]) 1 false [(0,(.str bJ))]).wp K U (λ v46 U =>
 ae K 237 [a0,mg,v46] U (ah (λ nB U =>
 aq R (.aK []) U) (aa R))) (aa R)) (aa R)) (aa R))) (aa R)) (aa R))) (aa R)) (aa R)) (aa R)) (
 (aw .eql aR true v8 (.int .u8 36)).wp K U (λ v49 U =>
 ax v49 (
 (au (some (9,1)) (some [.str []]) 1 false [(0,(.str gQ))]).wp K U (λ v51 U =>
 ae K 231 [a0,v51] U (ah (λ mU U =>
 (eD false (some (3,1)) a2 none (some (.int .i64 1))).wp K U (λ mJ U =>
 (au (some (9,1)) (some [.str []]) 1 false [(0,(.str va))]).wp K U (λ oI U =>
 ae K 237 [a0,mJ,oI] U (ah (λ oJ U =>
 (au (some (9,1)) (some [.str []]) 2 false [(0,(.str cC)),(1,(.str vb))]).wp K U (λ v59 U =>
 ae K 231 [a0,v59] U (ah (λ yB U =>
 (aE (some (3,1)) none a2 (.int .i64 1)).wp K U (λ rj U =>
 (ak aF rj U).wp K U (λ qo U =>
 ae K 123 [a0,qo] U (ah (λ pW U =>
 (eD false (some (3,1)) a2 (some (.int .i64 2)) none).wp K U (λ sV U =>
 (au (some (9,1)) (some [.str []]) 1 false [(0,(.str uc))]).wp K U (λ sh U =>
 ae K 237 [a0,sV,sh] U (ah (λ v70 U =>
 (au (some (9,1)) (some [.str []]) 1 false [(0,(.str jJ))]).wp K U (λ v72 U =>
 ae K 231 [a0,v72] U (ah (λ Di U =>
 aq R (.aK []) U) (aa R))) (aa R)) (aa R))) (aa R)) (aa R)) (aa R))) (aa R)) (aa R)) (aa R))) (aa R)) (aa R))) (aa R)) (aa R)) (aa R))) (aa R)) (
 aq R (.aK []) U)) (aa R))) (aa R))) (aa R))) (aa R)) (aa R)) (aa R)) (aa R)
def Vk:Prop :=
 (fL a0).wp K U (λ v2 U =>
 (fL a1).wp K U (λ v3 U =>
 (af (some 0) v2).wp K U (λ v5 U =>
 (ak aF v5 U).wp K U (λ v6 U =>
 (aw .neq aR true v6 (.int .u8 4)).wp K U (λ v7 U =>
 ao K (aM v7 true) (af (some 0) v3) (λ v9 =>
 ao K (aM v7 true) (ak aF v9 U) (λ v10 =>
 ao K (aM v7 true) (aw .neq aR true v10 (.int .u8 4)) (λ v11 =>
 (bN v7 v11 (.bool false)).wp K U (λ v12 U =>
 ax v12 (
 aq R (.bool true) U) (
 (af (some 1) v2).wp K U (λ cn U =>
 (ak aF cn U).wp K U (λ cA U =>
 (aw .eql aR true cA (.str dk)).wp K U (λ cz U =>
 ao K (aM cz true) (af (some 1) v3) (λ dq =>
 ao K (aM cz true) (ak aF dq U) (λ cw =>
 ao K (aM cz true) (aw .eql aR true cw (.str gP)) (λ dt =>
 (bN cz dt (.bool false)).wp K U (λ v20 U =>
 aq R v20 U) (aa R))))) (aa R)) (aa R)) (aa R))) (aa R))))) (aa R)) (aa R)) (aa R)) (aa R)) (aa R)
def Vm:Prop :=
 ae K 190 [a0] U (ah (λ v6 U =>
 (aZ a0).wp K U (λ v9 U =>
 (af (some 1) v9).wp K U (λ v10 U =>
 (ak aF v10 U).wp K U (λ v11 U =>
 (au (some (5,1)) (some [.int .u8 0]) 1 false [(0,a1)]).wp K U (λ cn U =>
 (dB (some (5,1)) false v11 cn U).wp K U (λ cA U =>
 (aZ a0).wp K U (λ cz U =>
 (af (some 1) cz).wp K U (λ cQ U =>
 (aI aF cQ cA U).wp K U (λ _ U =>
 aq R .dE U) (aa R)) (aa R)) (aa R)) (aa R)) (aa R)) (aa R)) (aa R)) (aa R)) (aa R))
def Vo:Prop :=
 (aw .eql aR true a0 (.int .u8 6)).wp K U (λ v4 U =>
 ao K (aM v4 false) (aC.val a0) (λ v6 =>
 ao K (aM v4 false) (aw .eql aR true v6 (.int .u8 7)) (λ v7 =>
 (bN v4 (.bool true) v7).wp K U (λ v8 U =>
 aq R v8 U) (aa R)))) (aa R)
def Vq:Prop :=
 ae K 185 [a0] U (ah (λ v4 U =>
 ao K (aM v4 false) (aC.val a0) (λ v6 =>
 ao K (aM v4 false) (aw .eql aR true v6 (.int .u8 35)) (λ v7 =>
 (bN v4 (.bool true) v7).wp K U (λ v8 U =>
 ao K (aM v8 false) (aC.val a0) (λ v10 =>
 ao K (aM v8 false) (aw .eql aR true v10 (.int .u8 36)) (λ v11 =>
 (bN v8 (.bool true) v11).wp K U (λ v12 U =>
 aq R v12 U) (aa R)))) (aa R)))) (aa R))
def Vs:Prop :=
 ae K 33 [a0] U (ah (λ v8 U =>
 (aU v8 0).wp K U (λ v9 U =>
 (aU v8 1).wp K U (λ v10 U =>
 (aU v8 2).wp K U (λ v11 U =>
 (aw .eql aR true v11 (.int .i64 0)).wp K U (λ cn U =>
 ao K (aM cn true) (aC.val v9) (λ cz =>
 ao K (aM cn true) (cr (some false) cz) (λ cQ =>
 ao K (aM cn true) (aw .eql aR true cQ (.int .i64 1)) (λ dq =>
 (bN cn dq (.bool false)).wp K U (λ cw U =>
 ao K (aM cw true) (aC.val v9) (λ v20 =>
 ao K (aM cw true) (aE (some (51,3)) none v20 (.int .i64 0)) (λ v21 =>
 ao K (aM cw true) (af (some 0) v21) (λ eo =>
 ao K (aM cw true) (ak aF eo U) (λ eO =>
 ao K (aM cw true) (aw .eql aR true eO (.int .u8 1)) (λ v24 =>
 (bN cw v24 (.bool false)).wp K U (λ fh U =>
 ao K (aM fh true) (aC.val v9) (λ dX =>
 ao K (aM fh true) (aE (some (51,3)) none dX (.int .i64 0)) (λ v28 =>
 ao K (aM fh true) (af (some 1) v28) (λ ef =>
 ao K (aM fh true) (ak aF ef U) (λ v30 =>
 ao K (aM fh true) (aC.val a0) (λ v31 =>
 ao K (aM fh true) (aw .eql aR false v30 v31) (λ gl =>
 (bN fh gl (.bool false)).wp K U (λ gj U =>
 aq R gj U) (aa R)))))))) (aa R))))))) (aa R))))) (aa R)) (aa R)) (aa R)) (aa R)) (aa R))
def Vu:Prop :=
 (cr (some false) a1).wp K U (λ v12 U =>
 fw 5 [a0,a1,a1,v12,(.int .i64 0)] U λ lp v0 v1 v11 aaL cn U =>
 (aw .lss aR false cn aaL).wp K U (λ cA U =>
 ax cA (
 (aE (some (200,3)) none v11 cn).wp K U (λ cQ U =>
 (ak (some (true,3)) cQ U).wp K U (λ dq U =>
 (aC.cL [.eA,.int .i64 0,.int .i64 0]).wp K U (λ v6 U =>
 (aI (some (true,3)) v6 dq U).wp K U (λ _ U =>
 (aw .add aR true cn (.int .i64 1)).wp K U (λ v20 U =>
 (eD false (some (200,3)) v1 (some v20) none).wp K U (λ v21 U =>
 (cr (some false) v21).wp K U (λ eo U =>
 fw 10 [v0,v1,v6,(.int .i64 0),v11,aaL,cn,v21,eo,(.int .i64 0)] U λ XO iM nQ pe v7 FG aaM qC aaU aaV eO U =>
 (aw .lss aR false eO aaV).wp K U (λ v24 U =>
 ax v24 (
 (aE (some (200,3)) none aaU eO).wp K U (λ fh U =>
 (ak (some (true,3)) fh U).wp K U (λ gi U =>
 (aC.cL [.eA,.int .i64 0,.int .i64 0]).wp K U (λ v9 U =>
 (aI (some (true,3)) v9 gi U).wp K U (λ _ U =>
 (af (some 1) v9).wp K U (λ v28 U =>
 (ak aF v28 U).wp K U (λ ef U =>
 (aw .add aR false v7 ef).wp K U (λ v30 U =>
 (aw .add aR true eO (.int .i64 1)).wp K U (λ v31 U =>
 XO iM nQ pe v30 FG aaM qC aaU aaV v31 U) (aa R)) (aa R)) (aa R)) (aa R)) (aa R)) (aa R)) (aa R)) (aa R)) (
 fw 8 [iM,nQ,pe,v7,(.int .i64 0),FG,aaM,qC] U λ ajk BP afS BR lL v10 aaJ aaN FH U =>
 jn 9 (λ GR afT D8 D9 FF aaK aaO aaP mU U =>
 ax mU (
 (aw .add aR true FF (.int .i64 1)).wp K U (λ nC U =>
 ajk GR afT D8 D9 nC aaK aaO aaP U) (aa R)) (
 (af (some 1) D8).wp K U (λ oI U =>
 (ak aF oI U).wp K U (λ oJ U =>
 (aw .lss aR false FF oJ).wp K U (λ qn U =>
 ax qn (
 aq R (.bool false) U) (
 (eD false (some (5,1)) GR (some FF) none).wp K U (λ nV U =>
 (aw .add aR true aaP (.int .i64 1)).wp K U (λ yC U =>
 lp nV afT aaK aaO yC U) (aa R)) (aa R))) (aa R)) (aa R)) (aa R))) λ j =>
 (λ ar:St =>
 az K (cr (some false) BP) (λ hU =>
 az K (aw .sub aR false hU lL) (λ ij =>
 az K (aw .lss aR false v10 ij) (λ v37 =>
 ao K (aM v37 true) (aC.val v10) (λ lD =>
 ao K (aM v37 true) (af (some 2) BR) (λ v40 =>
 ao K (aM v37 true) (ak aF v40 ar) (λ kM =>
 ao K (aM v37 true) (aw .lss aR false lD kM) (λ fD =>
 az K (bN v37 fD (.bool false)) (λ kj =>
 ao K (aM kj true) (af (some 0) BR) (λ mg =>
 ao K (aM kj true) (ak aF mg ar) (λ v46 =>
 ao K (aM kj true) (aC.val BP) (λ nB =>
 ao K (aM kj true) (aC.val v10) (λ ri =>
 ao K (aM kj true) (aE (some (5,1)) none nB ri) (λ v49 =>
 ao K (aM kj true) (ak aF v49 ar) (λ ji =>
 ax (aM kj true) (
 (jz K.P v46 [ji]).wp K U (λ v51 U=>df ((eE v49++[])++((eE mg++[])++((eE v40++[])++[]))) ar U /\
 az K (bN kj v51 (.bool false)) (λ Rf =>
 j BP afS BR lL v10 aaJ aaN FH Rf U)) (aa R)) (
 az K (bN kj (.aK []) (.bool false)) (λ ahQ =>
 j BP afS BR lL v10 aaJ aaN FH ahQ U))))))))))))))))) U)) (aa R)) (aa R)) (aa R)) (aa R)) (aa R)) (aa R)) (aa R)) (aa R)) (
 (cr (some false) v0).wp K U (λ qo U =>
 (aw .eql aR true qo (.int .i64 0)).wp K U (λ pW U =>
 aq R pW U) (aa R)) (aa R))) (aa R)) (aa R)
def LV:Prop :=
 (cr (some false) a0).wp K U (λ v7 U =>
 fw 4 [a0,a1,v7,(.int .i64 0)] U λ lp v0 v1 lL v8 U =>
 (aw .lss aR false v8 lL).wp K U (λ v9 U =>
 ax v9 (
 (aE (some (3,1)) none v0 v8).wp K U (λ cA U =>
 (ak aF cA U).wp K U (λ cz U =>
 (jz K.P v1 [cz]).wp K U (λ cQ U =>
 ax cQ (
 aq R v8 U) (
 (aw .add aR true v8 (.int .i64 1)).wp K U (λ cw U =>
 lp v0 v1 lL cw U) (aa R))) (aa R)) (aa R)) (aa R)) (
 aq R (.int .i64 (-1)) U)) (aa R)) (aa R)
def afs:Prop :=
 ae K 243 [a0,a1] U (ah (λ v10 U =>
 (aw .geq aR true v10 (.int .i64 0)).wp K U (λ v12 U =>
 ax v12 (
 (λ ar:St =>
 az K (eD true none a0 none (some v10)) (λ cz =>
 az K (cr (some true) a1) (λ dt =>
 az K (aw .add aR false v10 dt) (λ v20 =>
 az K (eD true none a0 (some v20) none) (λ v21 =>
 aq R (.aK [cz,v21,(.bool true)]) U))))) U) (
 aq R (.aK [a0,(.str w_),(.bool false)]) U)) (aa R)) (aa R))
def aft:Prop :=
 ae K 246 [a0,a1] U (ah (λ v7 U =>
 (aw .geq aR true v7 (.int .i64 0)).wp K U (λ v8 U =>
 aq R v8 U) (aa R)) (aa R))
def Vx:Prop :=
 (aw .eql aR true a0 (.int .u8 32)).wp K U (λ v5 U =>
 ao K (aM v5 false) (aC.val a0) (λ v7 =>
 ao K (aM v5 false) (aw .eql aR true v7 (.int .u8 10)) (λ v8 =>
 (bN v5 (.bool true) v8).wp K U (λ v9 U =>
 ax v9 (
 aq R (.int .i64 1) U) (
 (aw .lss aR true a0 (.int .u8 32)).wp K U (λ v12 U =>
 ao K (aM v12 false) (aC.val a0) (λ cA =>
 ao K (aM v12 false) (aw .gtr aR true cA (.int .u8 126)) (λ cz =>
 (bN v12 (.bool true) cz).wp K U (λ cQ U =>
 ax cQ (
 aq R (.int .i64 0) U) (
 (aw .geq aR true a0 (.int .u8 48)).wp K U (λ dt U =>
 ao K (aM dt true) (aC.val a0) (λ v21 =>
 ao K (aM dt true) (aw .leq aR true v21 (.int .u8 57)) (λ eo =>
 (bN dt eo (.bool false)).wp K U (λ eO U =>
 ax eO (
 aq R (.int .i64 2) U) (
 (aw .geq aR true a0 (.int .u8 97)).wp K U (λ gi U =>
 ao K (aM gi true) (aC.val a0) (λ v28 =>
 ao K (aM gi true) (aw .leq aR true v28 (.int .u8 122)) (λ ef =>
 (bN gi ef (.bool false)).wp K U (λ v30 U =>
 ax v30 (
 aq R (.int .i64 3) U) (
 (aw .geq aR true a0 (.int .u8 65)).wp K U (λ gj U =>
 ao K (aM gj true) (aC.val a0) (λ iC =>
 ao K (aM gj true) (aw .leq aR true iC (.int .u8 90)) (λ ij =>
 (bN gj ij (.bool false)).wp K U (λ v37 U =>
 ax v37 (
 aq R (.int .i64 4) U) (
 aq R (.int .i64 5) U)) (aa R)))) (aa R))) (aa R)))) (aa R))) (aa R)))) (aa R))) (aa R)))) (aa R))) (aa R)))) (aa R)
def Vz:Prop :=
 (aw .eql aR true a1 (.int .i64 9)).wp K U (λ v12 U =>
 ax v12 (
 ae K 252 [a0] U (ah (λ cA U =>
 aq R cA U) (aa R))) (
 (aw .eql aR true a1 (.int .i64 4)).wp K U (λ cQ U =>
 ax cQ (
 ae K 99 [a0,(.int .u8 19)] U (ah (λ cw U =>
 ae K 100 [a0,(.str qD)] U (ah (λ v20 U =>
 ax v20 (
 ae K 219 [a0,(.int .i64 4)] U (ah (λ eO U =>
 (au (some (87,1)) (some [.a8]) 1 false [(0,eO)]).wp K U (λ v24 U =>
 ae K 103 [cw,v24] U (ah (λ fh U =>
 aq R fh U) (aa R))) (aa R)) (aa R))) (
 (aw .add aR true a1 (.int .i64 1)).wp K U (λ v28 U =>
 ae K 219 [a0,v28] U (ah (λ ef U =>
 aq R ef U) (aa R))) (aa R))) (aa R))) (aa R))) (
 (aw .add aR true a1 (.int .i64 1)).wp K U (λ gl U =>
 ae K 219 [a0,gl] U (ah (λ gj U =>
 fw 3 [a0,a1,gj] U λ lp v0 v1 v6 U =>
 (λ ar:St =>
 az K (aZ v0) (λ ij =>
 az K (af (some 3) ij) (λ v37 =>
 az K (ak aF v37 ar) (λ iZ =>
 az K (eQ (some (.i,185)) (some .kx) iZ v1 false ar) (λ v40 =>
 ae K 253 [v0] U (ah (λ fD U=>df ((eE iZ++(eE v1++[]))++((eE v37++[])++[])) ar U /\
 (∀ b∈eE v40++(eE fD++[]),b∈(eE iZ++(eE v1++[]))++((eE v37++[])++[])) /\
 az K (eQ (some (.s,5)) (some (.int .u8 0)) v40 fD true ar) (λ kj =>
 az K (aU kj 0) (λ lE =>
 az K (aU kj 1) (λ mg =>
 (lj .not mg).wp K U (λ nB U =>
 ax nB (
 aq R v6 U) (
 ae K 99 [v0,lE] U (ah (λ v51 U =>
 (aZ v0).wp K U (λ v53 U =>
 (af (some 1) v53).wp K U (λ nC U =>
 (ak aF nC U).wp K U (λ mJ U =>
 (aw .add aR true mJ (.int .i64 1)).wp K U (λ oI U =>
 (aZ v0).wp K U (λ oJ U =>
 (af (some 1) oJ).wp K U (λ qn U =>
 (aI aF qn oI U).wp K U (λ _ U =>
 (aw .eql aR true v1 (.int .i64 8)).wp K U (λ yB U =>
 ax yB (
 ae K 168 [v0] U (ah (λ rj U =>
 (aZ v51).wp K U (λ qo U =>
 (af (some 0) qo).wp K U (λ pW U =>
 (af (some 2) pW).wp K U (λ BQ U =>
 (aI aF BQ rj U).wp K U (λ _ U =>
 (au (some (87,1)) (some [.a8]) 1 false [(0,v6)]).wp K U (λ sh U =>
 ae K 103 [v51,sh] U (ah (λ v70 U =>
 lp v0 v1 v70 U) (aa R))) (aa R)) (aa R)) (aa R)) (aa R)) (aa R)) (aa R))) (
 (aw .add aR true v1 (.int .i64 1)).wp K U (λ v75 U =>
 ae K 219 [v0,v75] U (ah (λ v76 U =>
 (au (some (87,1)) (some [.a8]) 2 false [(0,v6),(1,v76)]).wp K U (λ IK U =>
 ae K 103 [v51,IK] U (ah (λ yD U =>
 (aw .eql aR true v1 (.int .i64 5)).wp K U (λ v80 U =>
 ax v80 (
 aq R yD U) (
 lp v0 v1 yD U)) (aa R)) (aa R))) (aa R)) (aa R))) (aa R))) (aa R)) (aa R)) (aa R)) (aa R)) (aa R)) (aa R)) (aa R)) (aa R)) (aa R)))) (aa R))))) (aa R))))))) U) (aa R))) (aa R))) (aa R))) (aa R)
def VB:Prop :=
 (cr (some false) a0).wp K U (λ v7 U =>
 fw 4 [a0,a1,v7,(.int .i64 0)] U λ lp v0 v1 lL v8 U =>
 (aw .lss aR false v8 lL).wp K U (λ v9 U =>
 ax v9 (
 (aE (some (9,1)) none v0 v8).wp K U (λ cA U =>
 (ak aF cA U).wp K U (λ cz U =>
 (aw .eql aR false v1 cz).wp K U (λ cQ U =>
 ax cQ (
 aq R v8 U) (
 (aw .add aR true v8 (.int .i64 1)).wp K U (λ cw U =>
 lp v0 v1 lL cw U) (aa R))) (aa R)) (aa R)) (aa R)) (
 aq R (.int .i64 (-1)) U)) (aa R)) (aa R)
def VD:Prop :=
 (cr (some false) a1).wp K U (λ v8 U =>
 fw 4 [a0,a1,v8,(.int .i64 0)] U λ lp v0 v7 mK v9 U =>
 (aw .lss aR false v9 mK).wp K U (λ v10 U =>
 ax v10 (
 (aE (some (9,1)) none v7 v9).wp K U (λ v11 U =>
 (ak aF v11 U).wp K U (λ v12 U =>
 jn 6 (λ iM v5 v6 lL aj6 lM U =>
 (aZ iM).wp K U (λ eO U =>
 (af (some 1) eO).wp K U (λ v24 U =>
 (ak aF v24 U).wp K U (λ fh U =>
 (ek (some [(0,1),(1,1),(2,1)]) (some [.int .u8 0,.str [],.int .i64 0]) none [(0,v6),(1,v5)]).wp K U (λ v28 U =>
 (au (some (51,3)) (some [.int .u8 0,.str [],.int .i64 0]) 1 false [(0,v28)]).wp K U (λ ef U =>
 (dB (some (51,3)) false fh ef U).wp K U (λ v30 U =>
 (aZ iM).wp K U (λ v31 U =>
 (af (some 1) v31).wp K U (λ gl U =>
 (aI aF gl v30 U).wp K U (λ _ U =>
 (aw .add aR true lM (.int .i64 1)).wp K U (λ gj U =>
 lp iM lL aj6 gj U) (aa R)) (aa R)) (aa R)) (aa R)) (aa R)) (aa R)) (aa R)) (aa R)) (aa R)) (aa R)) λ j =>
 (jf true none none v12 (.int .i64 0)).wp K U (λ cA U =>
 (aw .geq aR true cA (.int .u8 97)).wp K U (λ cz U =>
 ao K (aM cz true) (aC.val v12) (λ dq =>
 ao K (aM cz true) (jf true none none dq (.int .i64 0)) (λ cw =>
 ao K (aM cz true) (aw .leq aR true cw (.int .u8 122)) (λ dt =>
 (bN cz dt (.bool false)).wp K U (λ v20 U =>
 ax v20 (
 j v0 v12 (.int .u8 3) v7 mK v9 U) (
 j v0 v12 (.int .u8 4) v7 mK v9 U)) (aa R))))) (aa R)) (aa R)) (aa R)) (aa R)) (
 aq R (.aK []) U)) (aa R)) (aa R)
def VF:Prop :=
 (aZ a0).wp K U (λ v6 U =>
 (af (some 1) v6).wp K U (λ v7 U =>
 (ak aF v7 U).wp K U (λ v8 U =>
 (ek (some [(0,1),(1,1),(2,1)]) (some [.int .u8 0,.str [],.int .i64 0]) none [(0,(.int .u8 1)),(1,a1)]).wp K U (λ v10 U =>
 (au (some (51,3)) (some [.int .u8 0,.str [],.int .i64 0]) 1 false [(0,v10)]).wp K U (λ v11 U =>
 (dB (some (51,3)) false v8 v11 U).wp K U (λ v12 U =>
 (aZ a0).wp K U (λ cn U =>
 (af (some 1) cn).wp K U (λ cA U =>
 (aI aF cA v12 U).wp K U (λ _ U =>
 aq R (.aK []) U) (aa R)) (aa R)) (aa R)) (aa R)) (aa R)) (aa R)) (aa R)) (aa R)) (aa R)
def VH:Prop :=
 (cr (some false) a1).wp K U (λ v7 U =>
 fw 4 [a0,a1,v7,(.int .i64 0)] U λ lp v0 v6 lL v8 U =>
 (aw .lss aR false v8 lL).wp K U (λ v9 U =>
 ax v9 (
 (aE (some (3,1)) none v6 v8).wp K U (λ v11 U =>
 (ak aF v11 U).wp K U (λ v12 U =>
 jn 5 (λ iM v5 pe D9 mK U =>
 ae K 123 [iM,v5] U (ah (λ v20 U =>
 (aw .add aR true mK (.int .i64 1)).wp K U (λ v21 U =>
 lp iM pe D9 v21 U) (aa R)) (aa R))) λ j =>
 (aw .gtr aR true v8 (.int .i64 0)).wp K U (λ cA U =>
 ax cA (
 (au (some (9,1)) (some [.str []]) 1 false [(0,(.str cH))]).wp K U (λ cQ U =>
 ae K 231 [v0,cQ] U (ah (λ dq U =>
 j v0 v12 v6 lL v8 U) (aa R))) (aa R)) (
 j v0 v12 v6 lL v8 U)) (aa R)) (aa R)) (aa R)) (
 aq R (.aK []) U)) (aa R)) (aa R)
def VJ:Prop :=
 (λ ar:St =>
 az K (aZ a0) (λ v6 =>
 az K (af (some 1) v6) (λ v7 =>
 az K (ak aF v7 ar) (λ v8 =>
 az K (aC.enter 257 [a1]) (λ v10 =>
 az K (ek (some [(0,1),(1,1),(2,1)]) (some [.int .u8 0,.str [],.int .i64 0]) none [(0,(.int .u8 2)),(1,v10)]) (λ v11 =>
 az K (au (some (51,3)) (some [.int .u8 0,.str [],.int .i64 0]) 1 false [(0,v11)]) (λ v12 =>
 (dB (some (51,3)) false v8 v12 U).wp K U (λ cn U=>df ((eE v7++[])++[]) ar U /\
 az K (aZ a0) (λ cA =>
 az K (af (some 1) cA) (λ cz =>
 (aI aF cz cn U).wp K U (λ _ U =>
 aq R (.aK []) U) (aa R)))) (aa R)))))))) U
def VL:Prop :=
 (aZ a0).wp K U (λ v8 U =>
 (af (some 0) v8).wp K U (λ v9 U =>
 (af (some 0) v9).wp K U (λ v10 U =>
 (af (some 0) v10).wp K U (λ v11 U =>
 (ak aF v11 U).wp K U (λ v12 U =>
 (aE (some (43,6)) none v12 a1).wp K U (λ cA U =>
 (af (some 0) cA).wp K U (λ cz U =>
 (ak aF cz U).wp K U (λ cQ U =>
 ae K 236 [a0,cQ] U (ah (λ dq U =>
 (aw .geq aR false dq a2).wp K U (λ dt U =>
 ax dt (
 ae K 123 [a0,a1] U (ah (λ eo U =>
 aq R (.aK []) U) (aa R))) (
 (au (some (9,1)) (some [.str []]) 1 false [(0,(.str bK))]).wp K U (λ v24 U =>
 ae K 231 [a0,v24] U (ah (λ fh U =>
 ae K 123 [a0,a1] U (ah (λ v28 U =>
 (au (some (9,1)) (some [.str []]) 1 false [(0,(.str bJ))]).wp K U (λ v30 U =>
 ae K 231 [a0,v30] U (ah (λ v31 U =>
 aq R (.aK []) U) (aa R))) (aa R)) (aa R))) (aa R))) (aa R))) (aa R)) (aa R))) (aa R)) (aa R)) (aa R)) (aa R)) (aa R)) (aa R)) (aa R)) (aa R)
def VN:Prop :=
 (aZ a0).wp K U (λ v10 U =>
 (af (some 2) v10).wp K U (λ v11 U =>
 (ak aF v11 U).wp K U (λ v12 U =>
 (vU (some (.i,185)) v12).wp K U (λ cn U =>
 fw 2 [a1,cn] U λ lp v1 qC U =>
 (tY qC U).wp K U (λ cA U =>
 (aU cA 0).wp K U (λ cz U =>
 ax cz (
 (oe qC U).wp K U (λ cQ U =>
 (aU cQ 0).wp K U (λ dq U =>
 (aU cQ 1).wp K U (λ cw U =>
 (vU (some (.s,5)) cw).wp K U (λ v20 U =>
 fw 4 [v1,dq,qC,v20] U λ XO nQ v5 FH Rb U =>
 (tY Rb U).wp K U (λ v21 U =>
 (aU v21 0).wp K U (λ eo U =>
 ax eo (
 (oe Rb U).wp K U (λ eO U =>
 (aU eO 1).wp K U (λ v24 U =>
 (aw .eql aR false v24 nQ).wp K U (λ dX U =>
 ax dX (
 aq R v5 U) (
 XO nQ v5 FH Rb U)) (aa R)) (aa R)) (aa R)) (
 lp nQ FH U)) (aa R)) (aa R)) (aa R)) (aa R)) (aa R)) (aa R)) (
 (aw .eql aR true v1 (.int .u8 9)).wp K U (λ v31 U =>
 ax v31 (
 aq R (.int .i64 0) U) (
 (aw .eql aR true v1 (.int .u8 19)).wp K U (λ hU U =>
 ax hU (
 aq R (.int .i64 4) U) (
 (aw .geq aR true v1 (.int .u8 10)).wp K U (λ v37 U =>
 ao K (aM v37 true) (aC.val v1) (λ lD =>
 ao K (aM v37 true) (aw .leq aR true lD (.int .u8 16)) (λ v40 =>
 (bN v37 v40 (.bool false)).wp K U (λ kM U =>
 ax kM (
 aq R (.int .i64 1) U) (
 aq R (.int .i64 9) U)) (aa R)))) (aa R))) (aa R))) (aa R))) (aa R)) (aa R)) (aa R)) (aa R)) (aa R)) (aa R)
def VP:Prop :=
 (cr (some false) a1).wp K U (λ v9 U =>
 fw 5 [a0,a2,a1,v9,(.int .i64 0)] U λ lp v0 v2 v8 lM v10 U =>
 (aw .lss aR false v10 lM).wp K U (λ v11 U =>
 ax v11 (
 (aE (some (3,1)) none v8 v10).wp K U (λ cn U =>
 (ak aF cn U).wp K U (λ cA U =>
 (aE (some (9,1)) none v2 v10).wp K U (λ cw U =>
 (ak aF cw U).wp K U (λ dt U =>
 (au (some (9,1)) (some [.str []]) 1 false [(0,dt)]).wp K U (λ v20 U =>
 ae K 231 [v0,v20] U (ah (λ v21 U =>
 ae K 235 [v0,cA,(.int .i64 1)] U (ah (λ v24 U =>
 (aw .add aR true v10 (.int .i64 1)).wp K U (λ fh U =>
 lp v0 v2 v8 lM fh U) (aa R)) (aa R))) (aa R))) (aa R)) (aa R)) (aa R)) (aa R)) (aa R)) (
 aq R (.aK []) U)) (aa R)) (aa R)
def VR:Prop :=
 (ak aF a1 U).wp K U (λ v5 U =>
 (aw .eql aR false a0 v5).wp K U (λ v6 U =>
 aq R v6 U) (aa R)) (aa R)
def VT:Prop :=
 (cr (some false) a0).wp K U (λ v7 U =>
 fw 4 [a0,a1,v7,(.int .i64 0)] U λ lp v0 v1 lL v8 U =>
 (aw .lss aR false v8 lL).wp K U (λ v9 U =>
 ax v9 (
 (aE (some (178,1)) none v0 v8).wp K U (λ cA U =>
 (ak aF cA U).wp K U (λ cz U =>
 (aw .eql aR false v1 cz).wp K U (λ cQ U =>
 ax cQ (
 aq R v8 U) (
 (aw .add aR true v8 (.int .i64 1)).wp K U (λ cw U =>
 lp v0 v1 lL cw U) (aa R))) (aa R)) (aa R)) (aa R)) (
 aq R (.int .i64 (-1)) U)) (aa R)) (aa R)
def VV:Prop :=
 (aC.wP).wp K U (λ v10 U =>
 (eB (some (.s,5)) v10 (.str dN) (.int .u8 27) U).wp K U (λ _ U =>
 (eB (some (.s,5)) v10 (.str dR) (.int .u8 28) U).wp K U (λ _ U =>
 (eB (some (.s,5)) v10 (.str fU) (.int .u8 29) U).wp K U (λ _ U =>
 (eB (some (.s,5)) v10 (.str ik) (.int .u8 30) U).wp K U (λ _ U =>
 (eB (some (.s,5)) v10 (.str kz) (.int .u8 31) U).wp K U (λ _ U =>
 (eB (some (.s,5)) v10 (.str mT) (.int .u8 32) U).wp K U (λ _ U =>
 ae K 253 [a0] U (ah (λ cz U =>
 (eQ (some (.s,5)) (some (.int .u8 0)) v10 cz true U).wp K U (λ cQ U =>
 (aU cQ 0).wp K U (λ dq U =>
 (aU cQ 1).wp K U (λ cw U =>
 ax cw (
 ae K 99 [a0,dq] U (ah (λ eo U =>
 (aZ a0).wp K U (λ v24 U =>
 (af (some 1) v24).wp K U (λ fh U =>
 (ak aF fh U).wp K U (λ gi U =>
 (aw .add aR true gi (.int .i64 1)).wp K U (λ dX U =>
 (aZ a0).wp K U (λ v28 U =>
 (af (some 1) v28).wp K U (λ ef U =>
 (aI aF ef dX U).wp K U (λ _ U =>
 jn 1 (λ v6 U =>
 aq R v6 U) λ j =>
 (aw .eql aR true dq (.int .u8 31)).wp K U (λ v31 U =>
 ao K (aM v31 false) (aC.val dq) (λ gj =>
 ao K (aM v31 false) (aw .eql aR true gj (.int .u8 32)) (λ hU =>
 (bN v31 (.bool true) hU).wp K U (λ iC U =>
 ax iC (
 ae K 101 [a0] U (ah (λ iZ U =>
 (aZ eo).wp K U (λ lD U =>
 (af (some 0) lD).wp K U (λ v40 U =>
 (af (some 1) v40).wp K U (λ kM U =>
 (aI aF kM iZ U).wp K U (λ _ U =>
 j eo U) (aa R)) (aa R)) (aa R)) (aa R)) (aa R))) (
 j eo U)) (aa R)))) (aa R)) (aa R)) (aa R)) (aa R)) (aa R)) (aa R)) (aa R)) (aa R)) (aa R))) (
 ae K 100 [a0,(.str bK)] U (ah (λ lE U =>
 ax lE (
 ae K 109 [a0] U (ah (λ v46 U =>
 ae K 102 [a0,(.str bJ)] U (ah (λ ri U =>
 aq R v46 U) (aa R))) (aa R))) (
 ae K 167 [a0,(.int .i64 0)] U (ah (λ v51 U =>
 (wu (some (0,false,1)) v51).wp K U (λ mU U =>
 (aw .eql aR true mU (.int .u8 2)).wp K U (λ v53 U =>
 ax v53 (
 ae K 99 [a0,(.int .u8 26)] U (ah (λ mJ U =>
 ae K 168 [a0] U (ah (λ qn U =>
 (aZ mJ).wp K U (λ v59 U =>
 (af (some 0) v59).wp K U (λ yB U =>
 (af (some 2) yB).wp K U (λ nV U =>
 (aI aF nV qn U).wp K U (λ _ U =>
 aq R mJ U) (aa R)) (aa R)) (aa R)) (aa R)) (aa R))) (aa R))) (
 ae K 99 [a0,(.int .u8 33)] U (ah (λ qo U =>
 ae K 101 [a0] U (ah (λ td U =>
 (aZ qo).wp K U (λ sV U =>
 (af (some 0) sV).wp K U (λ sh U =>
 (af (some 1) sh).wp K U (λ v70 U =>
 (aI aF v70 td U).wp K U (λ _ U =>
 jn 1 (λ v9 U =>
 aq R v9 U) λ HQ =>
 ae K 100 [a0,(.str bK)] U (ah (λ v72 U =>
 ax v72 (
 (aZ qo).wp K U (λ wY U =>
 (af (some 0) wY).wp K U (λ v75 U =>
 (af (some 0) v75).wp K U (λ v76 U =>
 (aI aF v76 (.int .u8 34) U).wp K U (λ _ U =>
 ae K 106 [a0,qo,(.func (.func 269) [a0] [])] U (ah (λ IM U =>
 ae K 102 [a0,(.str bJ)] U (ah (λ v83 U =>
 HQ qo U) (aa R))) (aa R))) (aa R)) (aa R)) (aa R)) (aa R)) (
 HQ qo U)) (aa R))) (aa R)) (aa R)) (aa R)) (aa R)) (aa R))) (aa R)))) (aa R)) (aa R)) (aa R)))) (aa R)))) (aa R)) (aa R)) (aa R)) (aa R))) (aa R)) (aa R)) (aa R)) (aa R)) (aa R)) (aa R)) (aa R)
def VX:Prop :=
 ae K 167 [a0,(.int .i64 0)] U (ah (λ v5 U =>
 (aC.cL [.int .u8 0,.str [],.int .i64 0]).wp K U (λ v3 U =>
 (aI (some (true,3)) v3 v5 U).wp K U (λ _ U =>
 (af (some 0) v3).wp K U (λ v6 U =>
 (ak aF v6 U).wp K U (λ v7 U =>
 (aw .eql aR true v7 (.int .u8 3)).wp K U (λ v8 U =>
 ao K (aM v8 false) (af (some 0) v3) (λ v10 =>
 ao K (aM v8 false) (ak aF v10 U) (λ v11 =>
 ao K (aM v8 false) (aw .eql aR true v11 (.int .u8 4)) (λ v12 =>
 (bN v8 (.bool true) v12).wp K U (λ cn U =>
 ax cn (
 (af (some 1) v3).wp K U (λ cA U =>
 (ak aF cA U).wp K U (λ cz U =>
 aq R cz U) (aa R)) (aa R)) (
 aq R (.str w_) U)) (aa R))))) (aa R)) (aa R)) (aa R)) (aa R)) (aa R)) (aa R))
def VZ:Prop :=
 (au (some (9,1)) (some [.str []]) 1 false [(0,(.str rO))]).wp K U (λ v7 U =>
 ae K 105 [a0,v7] U (ah (λ v8 U =>
 ax v8 (
 ae K 99 [a0,(.int .u8 35)] U (ah (λ v10 U =>
 ae K 102 [a0,(.str rO)] U (ah (λ v12 U =>
 ae K 102 [a0,(.str bK)] U (ah (λ cA U =>
 ae K 106 [a0,v10,(.func (.func 278) [a0] [])] U (ah (λ dt U =>
 ae K 102 [a0,(.str bJ)] U (ah (λ v21 U =>
 ae K 169 [a0] U (ah (λ v24 U =>
 (au (some (87,1)) (some [.a8]) 1 false [(0,v24)]).wp K U (λ fh U =>
 ae K 103 [v10,fh] U (ah (λ gi U =>
 aq R gi U) (aa R))) (aa R)) (aa R))) (aa R))) (aa R))) (aa R))) (aa R))) (aa R))) (
 (au (some (9,1)) (some [.str []]) 1 false [(0,(.str gQ))]).wp K U (λ ef U =>
 ae K 105 [a0,ef] U (ah (λ v30 U =>
 ax v30 (
 ae K 99 [a0,(.int .u8 36)] U (ah (λ gl U =>
 ae K 102 [a0,(.str gQ)] U (ah (λ hU U =>
 ae K 102 [a0,(.str va)] U (ah (λ ij U =>
 ae K 169 [a0] U (ah (λ lD U =>
 (au (some (87,1)) (some [.a8]) 1 false [(0,lD)]).wp K U (λ v40 U =>
 ae K 103 [gl,v40] U (ah (λ kM U =>
 ae K 102 [a0,(.str cC)] U (ah (λ kj U =>
 ae K 102 [a0,(.str vb)] U (ah (λ mg U =>
 ae K 278 [a0] U (ah (λ ri U =>
 (au (some (87,1)) (some [.a8]) 1 false [(0,ri)]).wp K U (λ v49 U =>
 ae K 103 [gl,v49] U (ah (λ ji U =>
 ae K 102 [a0,(.str uc)] U (ah (λ mU U =>
 ae K 169 [a0] U (ah (λ mJ U =>
 (au (some (87,1)) (some [.a8]) 1 false [(0,mJ)]).wp K U (λ oI U =>
 ae K 103 [gl,oI] U (ah (λ oJ U =>
 ae K 102 [a0,(.str jJ)] U (ah (λ v59 U =>
 aq R gl U) (aa R))) (aa R))) (aa R)) (aa R))) (aa R))) (aa R))) (aa R)) (aa R))) (aa R))) (aa R))) (aa R))) (aa R)) (aa R))) (aa R))) (aa R))) (aa R))) (
 ae K 109 [a0] U (ah (λ yC U =>
 aq R yC U) (aa R)))) (aa R))) (aa R))) (aa R))) (aa R)
def V5:Prop :=
 ae K 99 [a0,(.int .u8 37)] U (ah (λ v5 U =>
 ae K 101 [a0] U (ah (λ v8 U =>
 (aZ v5).wp K U (λ v9 U =>
 (af (some 0) v9).wp K U (λ v10 U =>
 (af (some 1) v10).wp K U (λ v11 U =>
 (aI aF v11 v8 U).wp K U (λ _ U =>
 aq R v5 U) (aa R)) (aa R)) (aa R)) (aa R)) (aa R))) (aa R))
def aaf:Prop :=
 (cr (some true) a0).wp K U (λ ef U =>
 (aw .gtr aR true ef (.int .i64 1000)).wp K U (λ v30 U =>
 ax v30 (
 ae K 17 [] U (ah (λ v31 U =>
 aq R v31 U) (aa R))) (
 ae K 18 [a0] U (ah (λ hU U =>
 (aU hU 0).wp K U (λ iC U =>
 (aU hU 1).wp K U (λ ij U =>
 (aU hU 2).wp K U (λ v37 U =>
 (aC.cL [.ag]).wp K U (λ v5 U =>
 (aI (some (true,1)) v5 iC U).wp K U (λ _ U =>
 (aw .neq aR true v37 (.int .i64 0)).wp K U (λ lD U =>
 ax lD (
 ae K 17 [] U (ah (λ v40 U =>
 aq R v40 U) (aa R))) (
 (ak (some (true,1)) v5 U).wp K U (λ fD U =>
 ae K 26 [fD] U (ah (λ kj U =>
 ae K 25 [kj] U (ah (λ lE U =>
 (aU lE 0).wp K U (λ mg U =>
 (aU lE 1).wp K U (λ v46 U =>
 ae K 33 [mg] U (ah (λ v49 U =>
 (aU v49 0).wp K U (λ ji U =>
 (aU v49 1).wp K U (λ v51 U =>
 (aU v49 2).wp K U (λ mU U =>
 (dB (some (51,3)) false .ag ji U).wp K U (λ mJ U =>
 ae K 48 [mJ] U (ah (λ oI U =>
 (aU oI 0).wp K U (λ oJ U =>
 (aU oI 1).wp K U (λ qn U =>
 (aU oI 2).wp K U (λ v59 U =>
 (aw .neq aR true v46 (.int .i64 0)).wp K U (λ nV U =>
 ao K (aM nV false) (aC.val mU) (λ rj =>
 ao K (aM nV false) (aw .neq aR true rj (.int .i64 0)) (λ qo =>
 (bN nV (.bool true) qo).wp K U (λ pW U =>
 ao K (aM pW false) (aC.val v59) (λ td =>
 ao K (aM pW false) (aw .neq aR true td (.int .i64 0)) (λ sV =>
 (bN pW (.bool true) sV).wp K U (λ sh U =>
 ao K (aM sh false) (aC.val oJ) (λ BS =>
 ao K (aM sh false) (cr (some false) BS) (λ v72 =>
 ao K (aM sh false) (aC.val ji) (λ Di =>
 ao K (aM sh false) (cr (some false) Di) (λ wY =>
 ao K (aM sh false) (aw .neq aR false v72 wY) (λ v75 =>
 (bN sh (.bool true) v75).wp K U (λ v76 U =>
 ax v76 (
 (aw .eql aR true v46 (.int .i64 5)).wp K U (λ yD U =>
 ao K (aM yD true) (aC.enter 17 []) (λ v80 =>
 (bN yD v80 (.bool false)).wp K U (λ IM U =>
 aq R IM U) (aa R))) (aa R)) (
 fw 7 [a1,v5,mg,ji,oJ,.ag,(.int .i64 0)] U λ lp v1 tR v8 v10 cn cQ dq U =>
 (cr (some false) cn).wp K U (λ v84 U =>
 (aw .lss aR false dq v84).wp K U (λ v85 U =>
 ax v85 (
 jn 7 (λ nQ Ri mK FF qC Q7 FI U =>
 (aw .add aR true FI (.int .i64 1)).wp K U (λ v87 U =>
 lp nQ Ri mK FF qC Q7 v87 U) (aa R)) λ j =>
 (aE (some (3,1)) none cn dq).wp K U (λ v90 U =>
 (ak aF v90 U).wp K U (λ v91 U =>
 (aw .gtr aR false v91 dq).wp K U (λ v93 U =>
 ao K (aM v93 true) (aC.val cn) (λ v95 =>
 ao K (aM v93 true) (aC.val dq) (λ O7 =>
 ao K (aM v93 true) (aE (some (3,1)) none v95 O7) (λ v97 =>
 ao K (aM v93 true) (ak aF v97 U) (λ v98 =>
 ao K (aM v93 true) (aC.val v10) (λ Wl =>
 ao K (aM v93 true) (cr (some false) Wl) (λ Q4 =>
 ao K (aM v93 true) (aw .lss aR false v98 Q4) (λ Mr =>
 (bN v93 Mr (.bool false)).wp K U (λ xG U =>
 ao K (aM xG true) (aC.val v10) (λ Ms =>
 ao K (aM xG true) (aC.val dq) (λ v105 =>
 ao K (aM xG true) (aE (some (51,3)) none Ms v105) (λ Q5 =>
 ao K (aM xG true) (af (some 1) Q5) (λ v107 =>
 ao K (aM xG true) (ak aF v107 U) (λ YW =>
 ao K (aM xG true) (aw .eql aR true YW (.str bK)) (λ v109 =>
 (bN xG v109 (.bool false)).wp K U (λ YX U =>
 ax YX (
 (au (some (3,1)) (some [.int .i64 0]) 1 false [(0,dq)]).wp K U (λ afE U =>
 (dB (some (3,1)) false cQ afE U).wp K U (λ Y0 U =>
 j v1 tR v8 v10 cn Y0 dq U) (aa R)) (aa R)) (
 j v1 tR v8 v10 cn cQ dq U)) (aa R)))))))) (aa R))))))))) (aa R)) (aa R)) (aa R)) (
 (cr (some false) cQ).wp K U (λ Mt U =>
 (aw .eql aR true Mt (.int .i64 0)).wp K U (λ v117 U =>
 ax v117 (
 ae K 17 [] U (ah (λ Y1 U =>
 aq R Y1 U) (aa R))) (
 (B7 (some .i64) true false false v1).wp K U (λ Y2 U =>
 (cr (some false) cQ).wp K U (λ ajL U =>
 (aw .rem aR false Y2 ajL).wp K U (λ v124 U =>
 (aE (some (3,1)) none cQ v124).wp K U (λ Y3 U =>
 (ak aF Y3 U).wp K U (λ Q6 U =>
 (λ ar:St =>
 az K (aE (some (51,3)) none v10 Q6) (λ Y4 =>
 az K (af (some 2) Y4) (λ v130 =>
 az K (ak aF v130 ar) (λ v131 =>
 az K (aE (some (3,1)) none cn Q6) (λ Y5 =>
 az K (ak aF Y5 ar) (λ Y6 =>
 az K (aE (some (51,3)) none v10 Y6) (λ Y7 =>
 az K (af (some 2) Y7) (λ v138 =>
 az K (ak aF v138 ar) (λ v139 =>
 (λ lZ:St =>
 az K (eD true none v8 none (some v131)) (λ v143 =>
 az K (aw .add aR true v143 (.str u7)) (λ ajO =>
 az K (aw .add aR true v131 (.int .i64 1)) (λ ajP =>
 az K (eD true none v8 (some ajP) (some v139)) (λ ajQ =>
 az K (aw .add aR false ajO ajQ) (λ ajR =>
 az K (aw .add aR true ajR (.str u7)) (λ ajS =>
 az K (aw .add aR true v139 (.int .i64 1)) (λ v154 =>
 az K (eD true none v8 (some v154) none) (λ ajT =>
 az K (aw .add aR false ajS ajT) (λ ajU =>
 az K (aC.enter 18 [ajU]) (λ v157 =>
 az K (aU v157 0) (λ ajV =>
 az K (aU v157 1) (λ v159 =>
 az K (aU v157 2) (λ v160 =>
 (aC.cL [.ag]).wp K U (λ v21 U=>df ([]) lZ U /\
 (aI (some (true,1)) v21 ajV U).wp K U (λ _ U=>df ([]) lZ U /\
 (aw .neq aR true v160 (.int .i64 0)).wp K U (λ v162 U =>
 ax v162 (
 ae K 17 [] U (ah (λ ajW U =>
 aq R ajW U) (aa R))) (
 (ak (some (true,1)) tR U).wp K U (λ ajX U =>
 ae K 36 [ajX] U (ah (λ afR U =>
 (aU afR 0).wp K U (λ v167 U =>
 (aU afR 1).wp K U (λ v168 U =>
 (aC.cL [.ag]).wp K U (λ v24 U =>
 (aI (some (true,1)) v24 v167 U).wp K U (λ _ U =>
 (ak (some (true,1)) v21 U).wp K U (λ ajY U =>
 ae K 36 [ajY] U (ah (λ v171 U =>
 (aU v171 0).wp K U (λ ajZ U =>
 (aU v171 1).wp K U (λ v173 U =>
 (aC.cL [.ag]).wp K U (λ gi U =>
 (aI (some (true,1)) gi ajZ U).wp K U (λ _ U =>
 ao K (aM v168 true) (aC.val v173) (λ aj0 =>
 (bN v168 aj0 (.bool false)).wp K U (λ Mu U =>
 ao K (aM Mu true) (ak (some (true,1)) v24 U) (λ aj1 =>
 ao K (aM Mu true) (ak (some (true,1)) gi U) (λ aj2 =>
 ao K (aM Mu true) (aC.enter 22 [aj1,aj2]) (λ aj3 =>
 ao K (aM Mu true) (lj .not aj3) (λ v182 =>
 (bN Mu v182 (.bool false)).wp K U (λ v183 U =>
 ao K (aM v183 true) (aC.enter 17 []) (λ aj4 =>
 (bN v183 aj4 (.bool false)).wp K U (λ aj5 U =>
 aq R aj5 U) (aa R))) (aa R)))))) (aa R))) (aa R)) (aa R)) (aa R)) (aa R)) (aa R))) (aa R)) (aa R)) (aa R)) (aa R)) (aa R)) (aa R))) (aa R))) (aa R)) (aa R)) (aa R))))))))))))))) U))))))))) U) (aa R)) (aa R)) (aa R)) (aa R)) (aa R))) (aa R)) (aa R))) (aa R)) (aa R))) (aa R))))))) (aa R)))) (aa R)))) (aa R)) (aa R)) (aa R)) (aa R)) (aa R))) (aa R)) (aa R)) (aa R)) (aa R)) (aa R))) (aa R)) (aa R)) (aa R))) (aa R))) (aa R))) (aa R)) (aa R)) (aa R)) (aa R)) (aa R)) (aa R)) (aa R)))) (aa R)) (aa R)
end
section
variable {a0 a1 a2 a3 a4 a5 a6:AV} {R:cV->St->Prop} {U:St}
theorem It (h:LQ a0 a1 a2 a3 R U):ae K 155 [a0,a1,a2,a3] U R:=bS Tryz.f155 ac5 h
theorem Iu (h:LR a0 R U):ae K 156 [a0] U R:=bS Tryz.f156 ac6 h
theorem UQ (h:UP a0 R U):ae K 158 [a0] U R:=bS Tryz.f158 ac7 h
theorem US (h:UR a0 R U):ae K 159 [a0] U R:=bS Tryz.f159 ac8 h
theorem UU (h:UT a0 R U):ae K 160 [a0] U R:=bS Tryz.f160 ac9 h
theorem UX (h:UW a0 R U):ae K 161 [a0] U R:=bS Tryz.f161 ada h
theorem UZ (h:UY a0 R U):ae K 162 [a0] U R:=bS Tryz.f162 adb h
theorem U1 (h:U0 a0 R U):ae K 163 [a0] U R:=bS Tryz.f163 ade h
theorem U3 (h:U2 a0 R U):ae K 164 [a0] U R:=bS Tryz.f164 adf h
theorem U4 (h:afo a0 a1 R U):ae K 165 [a0,a1] U R:=bS Tryz.f165 adg h
theorem U5 (h:afp a0 R U):ae K 166 [a0] U R:=bS Tryz.f166 adh h
theorem U7 (h:U6 a0 a1 R U):ae K 167 [a0,a1] U R:=bS Tryz.f167 adi h
theorem U8 (h:afq a0 R U):ae K 168 [a0] U R:=bS Tryz.f168 adj h
theorem Va (h:U9 a0 R U):ae K 169 [a0] U R:=bS Tryz.f169 adk h
theorem Vb (h:afr a0 a1 R U):ae K 178 [a0,a1] U R:=bS Tryz.f178 adl h
theorem Vd (h:Vc a0 R U):ae K 179 [a0] U R:=bS Tryz.f179 adm h
theorem Vf (h:Ve a0 a1 a2 R U):ae K 180 [a0,a1,a2] U R:=bS Tryz.f180 adn h
theorem Vh (h:Vg a0 R U):ae K 181 [a0] U R:=bS Tryz.f181 ado h
theorem Iv (h:LS a0 a1 a2 R U):ae K 182 [a0,a1,a2] U R:=bS Tryz.f182 adp h
theorem Iw (h:LU a0 a1 a2 R U):ae K 183 [a0,a1,a2] U R:=bS Tryz.f183 adq h
theorem qi (h:uu a0 a1 a2 R U):ae K 184 [a0,a1,a2] U R:=bS Tryz.f184 adr h
theorem Vj (h:Vi a0 R U):ae K 185 [a0] U R:=bS Tryz.f185 ads h
theorem sf (h:vW a0 a1 a2 R U):ae K 186 [a0,a1,a2] U R:=bS Tryz.f186 adt h
theorem wV (h:BI a0 a1 a2 R U):ae K 187 [a0,a1,a2] U R:=bS Tryz.f187 adu h
theorem Vl (h:Vk a0 a1 R U):ae K 188 [a0,a1] U R:=bS Tryz.f188 adw h
theorem Vn (h:Vm a0 a1 R U):ae K 189 [a0,a1] U R:=bS Tryz.f189 adx h
theorem Vp (h:Vo a0 R U):ae K 206 [a0] U R:=bS Tryz.f206 ady h
theorem Vr (h:Vq a0 R U):ae K 207 [a0] U R:=bS Tryz.f207 adz h
theorem Vt (h:Vs a0 R U):ae K 208 [a0] U R:=bS Tryz.f208 adA h
theorem Vv (h:Vu a0 a1 R U):ae K 209 [a0,a1] U R:=bS Tryz.f209 adB h
theorem Iy (h:LV a0 a1 R U):ae K 210 [a0,a1] U R:=bS Tryz.f210 adC h
theorem Iz (h:afs a0 a1 R U):ae K 212 [a0,a1] U R:=bS Tryz.f212 adD h
theorem Vw (h:aft a0 a1 R U):ae K 215 [a0,a1] U R:=bS Tryz.f215 adE h
theorem Vy (h:Vx a0 R U):ae K 216 [a0] U R:=bS Tryz.f216 adF h
theorem VA (h:Vz a0 a1 R U):ae K 219 [a0,a1] U R:=bS Tryz.f219 adG h
theorem VC (h:VB a0 a1 R U):ae K 230 [a0,a1] U R:=bS Tryz.f230 adH h
theorem VE (h:VD a0 a1 R U):ae K 231 [a0,a1] U R:=bS Tryz.f231 adI h
theorem VG (h:VF a0 a1 R U):ae K 232 [a0,a1] U R:=bS Tryz.f232 adJ h
theorem VI (h:VH a0 a1 R U):ae K 233 [a0,a1] U R:=bS Tryz.f233 adK h
theorem VK (h:VJ a0 a1 R U):ae K 234 [a0,a1] U R:=bS Tryz.f234 adL h
theorem VM (h:VL a0 a1 a2 R U):ae K 235 [a0,a1,a2] U R:=bS Tryz.f235 adM h
theorem VO (h:VN a0 a1 R U):ae K 236 [a0,a1] U R:=bS Tryz.f236 adN h
theorem VQ (h:VP a0 a1 a2 R U):ae K 237 [a0,a1,a2] U R:=bS Tryz.f237 adO h
theorem VS (h:VR a0 a1 R U):ae K 242 [a0,a1] U R:=bS Tryz.f242 adP h
theorem VU (h:VT a0 a1 R U):ae K 246 [a0,a1] U R:=bS Tryz.f246 adQ h
theorem VW (h:VV a0 R U):ae K 252 [a0] U R:=bS Tryz.f252 adR h
theorem VY (h:VX a0 R U):ae K 253 [a0] U R:=bS Tryz.f253 adS h
theorem V4 (h:VZ a0 R U):ae K 269 [a0] U R:=bS Tryz.f269 adT h
theorem V6 (h:V5 a0 R U):ae K 278 [a0] U R:=bS Tryz.f278 adU h
theorem Ya (h:aaf a0 a1 R U):ae K 13 [a0,a1] U R:=bS Tryz.f13 agb h
end
def LW (a0:AV) (R:cV->St->Prop) (U:St):Prop :=
 ae K 93 [a0] U (ah (λ v12 U =>
 (aw .neq (BT.mk false false false none false) true v12 (AV.int .i64 0)).wp K U (λ cA U =>
 ax cA (
 aq R (AV.aK [AV.ag,(AV.int .i64 0),v12]) U) (
 (cr (some false) a0).wp K U (λ dq U =>
 fw 6 [a0,AV.ag,AV.ag,a0,dq,(AV.int .i64 0)] U λ lp v0 v6 v7 cQ FI cw U =>
 (aw .lss (BT.mk false false false none false) false cw FI).wp K U (λ dt U =>
 ax dt (
 jn 6 (λ iM pe lL Q7 ahD Ju U =>
 (aw .add (BT.mk false false false none false) true Ju (AV.int .i64 1)).wp K U (λ v76 U =>
 lp iM pe lL Q7 ahD v76 U) (aa R)) λ j =>
 (aE (some (51,3)) none cQ cw).wp K U (λ v21 U =>
 (ak (some (true,3)) v21 U).wp K U (λ eo U =>
 (aC.cL [AV.int .u8 0,AV.str [],AV.int .i64 0]).wp K U (λ v9 U =>
 (aI (some (true,3)) v9 eo U).wp K U (λ _ U =>
 (au (some (3,1)) (some [AV.int .i64 0]) 1 true [(0,(AV.int .i64 (-1)))]).wp K U (λ v24 U =>
 (dB (some (3,1)) true v6 v24 U).wp K U (λ fh U =>
 (af (some 1) v9).wp K U (λ gi U =>
 (ak (some (false,1)) gi U).wp K U (λ dX U =>
 jn 10 (λ BP BR D9 v8 lM Q8 Q9 Ra aaW v28 U =>
 ax v28 (
 (au (some (3,1)) (some [AV.int .i64 0]) 1 true [(0,v8)]).wp K U (λ gj U =>
 (dB (some (3,1)) true D9 gj U).wp K U (λ hU U =>
 j BP BR hU Q8 Q9 Ra U) (aa R)) (aa R)) (
 jn 9 (λ GR D8 GU mK aj7 aaQ aaR aaS iC U =>
 ax iC (
 (cr (some false) GU).wp K U (λ lD U =>
 (aw .sub (BT.mk false false false none false) true lD (AV.int .i64 1)).wp K U (λ v40 U =>
 (λ ar:St =>
 az K (aw .lss (BT.mk false false false none false) true v40 (AV.int .i64 0)) (λ fD =>
 ao K (aM fD false) (aC.val GR) (λ lE =>
 ao K (aM fD false) (aC.val GU) (λ mg =>
 ao K (aM fD false) (aC.val v40) (λ v46 =>
 ao K (aM fD false) (aE (some (3,1)) none mg v46) (λ nB =>
 ao K (aM fD false) (ak (some (false,1)) nB ar) (λ ri =>
 ao K (aM fD false) (aE (some (51,3)) none lE ri) (λ v49 =>
 ao K (aM fD false) (af (some 1) v49) (λ ji =>
 ao K (aM fD false) (ak (some (false,1)) ji ar) (λ v51 =>
 ao K (aM fD false) (aw .eql (BT.mk false false false none false) true v51 (AV.str bK)) (λ mU =>
 ao K (aM fD false) (af (some 1) aj7) (λ v53 =>
 ao K (aM fD false) (ak (some (false,1)) v53 ar) (λ nC =>
 ao K (aM fD false) (aw .eql (BT.mk false false false none false) true nC (AV.str bJ)) (λ mJ =>
 ao K (aM fD false) (aw .neq (BT.mk true false false none false) false mU mJ) (λ oI =>
 az K (bN fD (AV.bool true) oI) (λ oJ =>
 ax oJ (
 aq R (AV.aK [AV.ag,mK,(AV.int .i64 4)]) U) (
 (λ lZ:St =>
 az K (aE (some (3,1)) none GU v40) (λ qo =>
 az K (ak (some (false,1)) qo lZ) (λ pW =>
 az K (aE (some (3,1)) none GU v40) (λ sV =>
 az K (ak (some (false,1)) sV lZ) (λ sh =>
 az K (aE (some (3,1)) none D8 mK) (λ BS =>
 (aI (some (false,1)) BS sh U).wp K U (λ _ U=>df ((eE sV++[])++((eE qo++[])++[])) lZ U /\
 az K (aE (some (3,1)) none D8 pW) (λ v72 =>
 (aI (some (false,1)) v72 mK U).wp K U (λ _ U =>
 (eD false (some (3,1)) GU none (some v40)).wp K U (λ v75 U =>
 j GR D8 v75 aaQ aaR aaS U) (aa R)) (aa R))) (aa R))))))) U))))))))))))))))) U) (aa R)) (aa R)) (
 j GR D8 GU aaQ aaR aaS U)) λ j_2 =>
 (aw .eql (BT.mk false false false none false) true aaW (AV.str bJ)).wp K U (λ ij U =>
 ax ij (
 j_2 BP BR D9 v8 lM Q8 Q9 Ra ij U) (
 (aw .eql (BT.mk false false false none false) true aaW (AV.str jJ)).wp K U (λ v37 U =>
 j_2 BP BR D9 v8 lM Q8 Q9 Ra v37 U) (aa R))) (aa R))) λ HQ =>
 (aw .eql (BT.mk false false false none false) true dX (AV.str bK)).wp K U (λ ef U =>
 ax ef (
 HQ v0 fh v7 cw v9 cQ FI cw dX ef U) (
 (aw .eql (BT.mk false false false none false) true dX (AV.str gQ)).wp K U (λ v30 U =>
 HQ v0 fh v7 cw v9 cQ FI cw dX v30 U) (aa R))) (aa R)) (aa R)) (aa R)) (aa R)) (aa R)) (aa R)) (aa R)) (aa R)) (aa R)) (
 (cr (some false) v7).wp K U (λ yD U =>
 (aw .gtr (BT.mk false false false none false) true yD (AV.int .i64 0)).wp K U (λ IL U =>
 ax IL (
 (λ aic:St =>
 az K (aE (some (3,1)) none v7 (AV.int .i64 0)) (λ IM =>
 az K (ak (some (false,1)) IM aic) (λ IN =>
 aq R (AV.aK [AV.ag,IN,(AV.int .i64 4)]) U))) U) (
 aq R (AV.aK [v6,(AV.int .i64 0),(AV.int .i64 0)]) U)) (aa R)) (aa R))) (aa R)) (aa R))) (aa R)) (aa R))
theorem V7 {a0:AV} {R:cV->St->Prop} {U:St} (h:LW a0 R U):ae K 48 [a0] U R :=
 ae.OH GZ Rm (by kernel_rfl) (by kernel_rfl) (Eq.mp (show LW a0 R U=I9 K Tryz.f48 Rm [a0] R U by kernel_rfl) h)
end Go.Rip
