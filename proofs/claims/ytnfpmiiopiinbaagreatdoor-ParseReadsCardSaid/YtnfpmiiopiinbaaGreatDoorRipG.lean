/- Lemmas for the proof: no conditions. -/
import Derived.Test.YtnfpmiiopiinbaaGreatDoorRipZz
import Derived.Test.YtnfpmiiopiinbaaGreatDoorRipD
set_option linter.unusedVariables false
set_option linter.unusedSimpArgs false
set_option linter.loopingSimpArgs false
set_option maxRecDepth 100000
namespace Go.Rip
open Go.Proofs
def Wp : An := ah (.bk (.lp [0, 2, 3, 5] (aP (ah (.cd .z .z)) (aP (.bk (ah (.cd .z .z))) cY))))
def Wq : An := ah (ah (aP (ah (.bk (.lp [0, 3, 8, 9, 10] (ah (aP (.cd .z .z) (aP (.bk (ah (ah cY))) cY)))))) (ah .z)))
def Wr : An := ah (ah (aP (ah (.bk (.lp [0, 3, 8, 9, 10] (ah (aP (.cd .z .z) (aP (.bk (ah (ah cY))) cY)))))) (ah .z)))
def Ws : An := ah (ah (ah (ah (ah (ah (ah (ah (ah (ah .z)))))))))
def Wt : An := ah (ah (ah (ah (ah (ah (ah (ah .z)))))))
def Wu : An := ah (ah (ah (ah (ah (ah .z)))))
def Wv : An := ah (ah (ah (ah (ah (ah (ah (ah .z)))))))
def Ww : An := ah (aP (aP (.rg [] [] (some ⟨[(true, 0), (true, 1), (true, 2), (true, 3), (true, 4), (true, 5), (true, 6), (true, 7), (true, 8), (true, 9)], [⟨8, 1, 0⟩, ⟨16, 8, 1⟩, ⟨32, 16, 2⟩, ⟨64, 32, 4⟩, ⟨128, 1, 0⟩, ⟨256, 128, 16⟩, ⟨512, 256, 32⟩, ⟨1024, 512, 64⟩, ⟨2048, 1024, 128⟩, ⟨4096, 2112, 264⟩]⟩)) (.cd (aP (.rg [] [] (some ⟨[(true, 0), (true, 1), (true, 2), (true, 3), (true, 4), (true, 5), (true, 6), (true, 7), (true, 8), (true, 9), (true, 10), (true, 11)], [⟨8192, 1, 0⟩, ⟨16384, 8192, 1⟩, ⟨32768, 16384, 2⟩, ⟨65536, 32768, 4⟩, ⟨131072, 1, 0⟩, ⟨262144, 131072, 16⟩, ⟨524288, 262144, 32⟩, ⟨1048576, 524288, 64⟩, ⟨2097152, 1114112, 136⟩, ⟨4194304, 2097152, 256⟩, ⟨8388608, 4194304, 512⟩, ⟨4, 8388608, 2047⟩]⟩)) .z) .z)) (ah .z))
def Wx : An := ah (ah (.sq (some [0, 5]) (ah (.cd cY .z)) (ah (ah .z))))
def Wy : An := cY
def Wz : An := ah (aP (aP (.rg [] [] (some ⟨[(true, 0), (true, 1), (true, 2), (true, 3), (true, 4), (true, 5), (true, 6), (true, 7), (true, 8), (true, 9), (true, 10), (true, 11)], [⟨32, 1, 0⟩, ⟨64, 32, 1⟩, ⟨128, 64, 2⟩, ⟨256, 128, 4⟩, ⟨512, 2, 0⟩, ⟨1024, 768, 24⟩, ⟨2048, 1, 0⟩, ⟨4096, 2048, 64⟩, ⟨8192, 4096, 128⟩, ⟨16384, 8192, 256⟩, ⟨32768, 16384, 512⟩, ⟨65536, 33792, 1056⟩]⟩)) (.cd (aP (.rg [] [] (some ⟨[(true, 0), (true, 1), (true, 2), (true, 3), (true, 4), (true, 5), (true, 6), (true, 7), (true, 8), (true, 9), (true, 10), (true, 11), (false, 12)], [⟨131072, 1, 0⟩, ⟨262144, 131072, 1⟩, ⟨524288, 262144, 2⟩, ⟨1048576, 524288, 4⟩, ⟨2097152, 1, 0⟩, ⟨4194304, 2097152, 16⟩, ⟨8388608, 4194304, 32⟩, ⟨16777216, 8388608, 64⟩, ⟨33554432, 2, 0⟩, ⟨67108864, 50331648, 384⟩, ⟨134217728, 68157440, 520⟩, ⟨268435456, 134217728, 1024⟩, ⟨0, 268435472, 4095⟩]⟩)) .z) .z)) (ah .z))
def WA : An := ah (ah (.sq (some [3]) (ah (.cd cY .z)) (ah .z)))
def WB : An := ah (ah (aP (aP (.rg [] [] (some ⟨[(true, 0), (true, 1), (true, 2), (true, 3), (true, 4), (true, 5), (true, 6), (true, 7), (true, 8), (true, 9), (true, 10), (true, 11)], [⟨1024, 1, 0⟩, ⟨2048, 1024, 1⟩, ⟨4096, 2048, 2⟩, ⟨8192, 4096, 4⟩, ⟨16384, 8, 0⟩, ⟨32768, 16384, 16⟩, ⟨65536, 40960, 40⟩, ⟨512, 65536, 64⟩, ⟨131072, 512, 128⟩, ⟨262144, 512, 128⟩, ⟨16, 131072, 511⟩, ⟨32, 262144, 2047⟩]⟩)) (ah (.cd (ah .z) .z))) (aP (.sq (some [0, 36]) (.rg [] [121] none) (.cd (ah (ah (ah (ah .z)))) .z)) (ah .z))))
def WC : An := ah (ah .z)
def WD : An := ah (ah (aP (.bk (.lp [0, 1, 5] (aP (ah (.cd .z .z)) (.bk cY)))) (ah .z)))
def WE : An := ah (ah (aP (.bk (aP (.rg [] [221] none) (.cd (aP (ah (.cd (ah .z) .z)) (aP (ah (.cd (ah .z) .z)) (ah .z))) (aP (.rg [] [224] none) (.cd (aP (ah (ah (.cd (ah .z) .z))) (ah .z)) .z))))) (ah (aP (ah (.bk (.lp [0, 1, 4, 8, 9] (aP (ah (.cd .z .z)) (aP (.bk (ah (.cd (ah .z) .z))) cY))))) (ah .z)))))
def WG : An := ah (aP (.rg [] [] (some ⟨[(true, 0), (true, 1), (true, 2), (true, 3), (true, 4), (true, 5), (true, 6), (true, 7), (true, 8), (true, 9), (true, 10), (true, 11), (true, 12), (true, 13), (true, 14), (true, 15), (true, 16), (true, 17), (true, 18), (true, 19), (true, 20), (true, 21), (true, 22), (true, 23), (true, 24), (true, 25), (true, 26), (true, 27), (true, 28), (true, 29), (true, 30), (true, 31), (true, 32), (true, 33), (true, 34), (true, 35), (true, 36), (true, 37), (true, 38), (true, 39), (true, 40), (true, 41), (true, 42), (true, 43), (true, 44), (true, 45), (true, 46), (true, 47), (true, 48), (true, 49), (true, 50), (true, 51), (true, 52), (true, 53), (true, 54), (true, 55), (true, 56), (true, 57), (true, 58), (true, 59), (true, 60)], [⟨32, 1, 0⟩, ⟨64, 32, 1⟩, ⟨128, 64, 2⟩, ⟨256, 128, 4⟩, ⟨512, 256, 8⟩, ⟨1024, 512, 16⟩, ⟨2048, 1025, 32⟩, ⟨4096, 3072, 96⟩, ⟨8192, 5120, 160⟩, ⟨16384, 9216, 288⟩, ⟨32768, 1025, 32⟩, ⟨65536, 33792, 1056⟩, ⟨131072, 66560, 2080⟩, ⟨262144, 132096, 4128⟩, ⟨524288, 263168, 8224⟩, ⟨1048576, 541696, 16928⟩, ⟨2097152, 1049600, 32800⟩, ⟨4194304, 2097152, 65568⟩, ⟨8388608, 4194305, 131072⟩, ⟨16777216, 12582912, 393216⟩, ⟨33554432, 20971520, 655360⟩, ⟨67108864, 37748736, 1179648⟩, ⟨134217728, 4194305, 131072⟩, ⟨268435456, 138412032, 4325376⟩, ⟨536870912, 272629760, 8519680⟩, ⟨1073741824, 541065216, 16908288⟩, ⟨2147483648, 1145044992, 35782656⟩, ⟨4294967296, 2151677952, 67239936⟩, ⟨8589934592, 4299161600, 134348800⟩, ⟨17179869184, 4194306, 131072⟩, ⟨34359738368, 25773998080, 805437440⟩, ⟨68719476736, 34363932672, 1073872896⟩, ⟨137438953472, 68719476736, 2147614720⟩, ⟨274877906944, 137438953473, 4294967296⟩, ⟨549755813888, 412316860416, 12884901888⟩, ⟨1099511627776, 687194767360, 21474836480⟩, ⟨2199023255552, 1236950581248, 38654705664⟩, ⟨4398046511104, 137438953473, 4294967296⟩, ⟨8796093022208, 4535485464576, 141733920768⟩, ⟨17592186044416, 8933531975680, 279172874240⟩, ⟨35184372088832, 17729624997888, 554050781184⟩, ⟨70368744177664, 37520834297856, 1172526071808⟩, ⟨140737488355328, 70506183131136, 2203318222848⟩, ⟨281474976710656, 140874927308800, 4402341478400⟩, ⟨562949953421312, 281612415664128, 8800387989504⟩, ⟨1125899906842624, 563087392374784, 17596481011712⟩, ⟨2251799813685248, 1125899906842625, 35184372088832⟩, ⟨4503599627370496, 3377699720527872, 105553116266496⟩, ⟨9007199254740992, 5629499534213120, 175921860444160⟩, ⟨18014398509481984, 10133099161583616, 316659348799488⟩, ⟨36028797018963968, 1125899906842625, 35184372088832⟩, ⟨72057594037927936, 37154696925806592, 1161084278931456⟩, ⟨144115188075855872, 73183493944770560, 2286984185774080⟩, ⟨288230376151711744, 145241087982698496, 4538783999459328⟩, ⟨576460752303423488, 307370674568036352, 9605333580251136⟩, ⟨1152921504606846976, 577586652210266112, 18049582881570816⟩, ⟨2305843009213693952, 1154047404513689600, 36063981391052800⟩, ⟨4611686018427387904, 2306968909120536576, 72092778410016768⟩, ⟨9223372036854775808, 4612812055773184000, 144150376742912000⟩, ⟨18446744073709551616, 9223372174293729280, 288230380446679040⟩, ⟨16, 18446744073709551616, 1152921504606846975⟩]⟩)) .z)
def WH : An := ah (aP (.rg [] [] (some ⟨[(true, 0), (true, 1), (true, 2), (true, 3), (true, 4), (true, 5), (true, 6), (true, 7), (true, 8), (true, 9), (true, 10), (true, 11), (true, 12), (true, 13), (true, 14), (true, 15), (true, 16), (true, 17), (true, 18), (true, 19), (true, 20), (true, 21), (true, 22), (true, 23), (true, 24), (true, 25), (true, 26), (true, 27), (true, 28), (true, 29), (true, 30), (true, 31), (true, 32)], [⟨32, 1, 0⟩, ⟨64, 32, 1⟩, ⟨128, 64, 2⟩, ⟨256, 128, 4⟩, ⟨512, 256, 8⟩, ⟨1024, 512, 16⟩, ⟨2048, 1025, 32⟩, ⟨4096, 3072, 96⟩, ⟨8192, 5120, 160⟩, ⟨16384, 9216, 288⟩, ⟨32768, 1025, 32⟩, ⟨65536, 33792, 1056⟩, ⟨131072, 66560, 2080⟩, ⟨262144, 132096, 4128⟩, ⟨524288, 263168, 8224⟩, ⟨1048576, 541696, 16928⟩, ⟨2097152, 1049600, 32800⟩, ⟨4194304, 2097152, 65568⟩, ⟨8388608, 4194305, 131072⟩, ⟨16777216, 12582912, 393216⟩, ⟨33554432, 20971520, 655360⟩, ⟨67108864, 37748736, 1179648⟩, ⟨134217728, 4194305, 131072⟩, ⟨268435456, 138412032, 4325376⟩, ⟨536870912, 272629760, 8519680⟩, ⟨1073741824, 541065216, 16908288⟩, ⟨2147483648, 1145044992, 35782656⟩, ⟨4294967296, 2151677952, 67239936⟩, ⟨8589934592, 4299161600, 134348800⟩, ⟨17179869184, 4194306, 131072⟩, ⟨34359738368, 25773998080, 805437440⟩, ⟨68719476736, 34363932672, 1073872896⟩, ⟨16, 68719476736, 4294967295⟩]⟩)) .z)
def WI : An := ah (aP (ah (.cd (ah (ah .z)) .z)) (ah (aP (.rg [] [] (some ⟨[(true, 0), (true, 1), (true, 2), (true, 3), (true, 4), (true, 5), (true, 6), (true, 7), (true, 8), (true, 9), (true, 10), (true, 11), (true, 12), (true, 13)], [⟨524288, 1, 0⟩, ⟨1048576, 524288, 1⟩, ⟨2097152, 1048576, 2⟩, ⟨4194304, 2097152, 4⟩, ⟨8388608, 1, 0⟩, ⟨16777216, 8388608, 16⟩, ⟨33554432, 16777216, 32⟩, ⟨67108864, 33554432, 64⟩, ⟨134217728, 67108864, 128⟩, ⟨268435456, 138412032, 264⟩, ⟨536870912, 268435456, 512⟩, ⟨1073741824, 536870912, 1024⟩, ⟨8, 0, 0⟩, ⟨16, 1073741824, 8191⟩]⟩)) (aP (ah (.bk (.lp [3, 4, 5] (aP (ah (.cd .z .z)) (aP (.bk cY) cY))))) (ah .z)))))
def WJ : An := ah (ah (aP (.bk (ah (.cd (ah (ah (ah (ah (ah (aP (.rb [] ⟨[(true, 0), (true, 1), (true, 2), (true, 3), (false, 4), (true, 5), (false, 6), (true, 7)], [⟨2097152, 8, 0⟩, ⟨4194304, 16, 0⟩, ⟨8388608, 32, 0⟩, ⟨16777216, 1, 0⟩, ⟨33554432, 16777216, 8⟩, ⟨67108864, 46137344, 22⟩, ⟨134217728, 69206016, 49⟩, ⟨4, 134217728, 127⟩]⟩) .z)))))) (ah (.cd (ah (ah .z)) (ah (.cd (ah (ah (ah (ah (ah (ah (aP (.rb [] ⟨[(true, 0), (true, 1), (false, 2), (true, 3), (false, 4), (true, 5)], [⟨18014398509481984, 8, 0⟩, ⟨36028797018963968, 1, 0⟩, ⟨72057594037927936, 36028797018963968, 2⟩, ⟨144115188075855872, 72057594037927936, 4⟩, ⟨288230376151711744, 162129586585337856, 13⟩, ⟨4, 288230376151711744, 31⟩]⟩) .z))))))) (ah (.cd (ah (ah (ah .z))) (ah (.cd (ah (ah (ah (ah (aP (.rb [] ⟨[(true, 0), (true, 1), (false, 2), (true, 3), (false, 4), (true, 5)], [⟨38685626227668133590597632, 8, 0⟩, ⟨77371252455336267181195264, 1, 0⟩, ⟨154742504910672534362390528, 77371252455336267181195264, 2⟩, ⟨309485009821345068724781056, 154742504910672534362390528, 4⟩, ⟨618970019642690137449562112, 348170636049013202315378688, 13⟩, ⟨4, 618970019642690137449562112, 31⟩]⟩) .z))))) (ah (.cd (ah (ah .z)) (aP (.rb [] ⟨[(true, 0), (false, 1), (true, 2), (true, 3), (true, 4), (true, 5), (true, 6), (true, 7), (true, 8), (true, 9), (true, 10), (true, 11), (true, 12), (true, 13), (true, 14), (true, 15), (true, 16), (true, 17), (true, 18), (true, 19), (true, 20), (true, 21), (true, 22), (true, 23), (true, 24), (true, 25), (true, 26), (true, 27), (true, 28), (true, 29), (true, 30)], [⟨316912650057057350374175801344, 1, 0⟩, ⟨633825300114114700748351602688, 316912650057057350374175801344, 1⟩, ⟨1267650600228229401496703205376, 633825300114114700748351602688, 2⟩, ⟨2535301200456458802993406410752, 1267650600228229401496703205377, 4⟩, ⟨5070602400912917605986812821504, 3802951800684688204490109616128, 12⟩, ⟨10141204801825835211973625643008, 6338253001141147007483516026880, 20⟩, ⟨20282409603651670423947251286016, 11408855402054064613470328848384, 36⟩, ⟨40564819207303340847894502572032, 21550060203879899825443954491392, 68⟩, ⟨81129638414606681695789005144064, 1267650600228229401496703205377, 4⟩, ⟨162259276829213363391578010288128, 82397289014834911097285708349440, 260⟩, ⟨324518553658426726783156020576256, 163526927429441592793074713493504, 516⟩, ⟨649037107316853453566312041152512, 325786204258654956184652723781632, 1028⟩, ⟨1298074214633706907132624082305024, 650304757917081682967808744357888, 2052⟩, ⟨2596148429267413814265248164610048, 1339906684441238477382015288082432, 4228⟩, ⟨5192296858534827628530496329220096, 2597416079867642043666744867815424, 8196⟩, ⟨10384593717069655257060992658440192, 5192296858534827628530496329220096, 16388⟩, ⟨20769187434139310514121985316880384, 10384593717069655257060992658440193, 32768⟩, ⟨41538374868278621028243970633760768, 31153781151208965771182977975320576, 98304⟩, ⟨83076749736557242056487941267521536, 51922968585348276285304963292200960, 163840⟩, ⟨166153499473114484112975882535043072, 93461343453626897313548933925961728, 294912⟩, ⟨332306998946228968225951765070086144, 10384593717069655257060992658440193, 32768⟩, ⟨664613997892457936451903530140172288, 342691592663298623483012757728526336, 1081344⟩, ⟨1329227995784915872903807060280344576, 674998591609527591708964522798612480, 2129920⟩, ⟨2658455991569831745807614120560689152, 1339612589501985528160868052938784768, 4227072⟩, ⟨5316911983139663491615228241121378304, 2668840585286901401064675113219129344, 8421376⟩, ⟨10633823966279326983230456482242756608, 5493450076329847630985265116314861568, 17334272⟩, ⟨21267647932558653966460912964485513216, 10644208559996396638487517474901196800, 33587200⟩, ⟨42535295865117307932921825928971026432, 21278032526275723621717973957143953408, 67141632⟩, ⟨85070591730234615865843651857942052864, 42545680458834377588178886921629466624, 134250496⟩, ⟨170141183460469231731687303715884105728, 85080976323951685521100712850600493056, 268468224⟩, ⟨158456325028528675187087900672, 170141183460469231731687303715884105728, 536903680⟩]⟩) (.cd (ah (ah (aP (.rb [] ⟨[(true, 0), (true, 1), (false, 2), (true, 3), (false, 4), (true, 5)], [⟨21778071482940061661655974875633165533184, 8, 0⟩, ⟨43556142965880123323311949751266331066368, 1, 0⟩, ⟨87112285931760246646623899502532662132736, 43556142965880123323311949751266331066368, 2⟩, ⟨174224571863520493293247799005065324265472, 87112285931760246646623899502532662132736, 4⟩, ⟨348449143727040986586495598010130648530944, 196002643346460554954903773880698489798656, 13⟩, ⟨4, 348449143727040986586495598010130648530944, 31⟩]⟩) .z))) .z))))))))))))))) (ah .z)))
def WK : An := ah (ah .z)
def WL : An := ah (ah .z)
def WM : An := ah (ah .z)
def WN : An := ah (aP (ah (.bk (.lp [0, 1, 7, 8] (ah (aP (.cd .z .z) (aP (.bk (ah (ah (.cd (ah .z) .z)))) cY)))))) (ah .z))
def WO : An := ah (aP (ah (.cd (ah .z) .z)) (ah (ah .z)))
def WQ : An := ah (aP (ah (ah (.cd (aP (.rg [] [] (some ⟨[(true, 0), (true, 1), (true, 2), (true, 3), (true, 4), (true, 5), (true, 6), (true, 7), (true, 8), (true, 9), (true, 10), (true, 11)], [⟨8192, 1, 0⟩, ⟨16384, 128, 0⟩, ⟨32768, 24576, 3⟩, ⟨65536, 1, 0⟩, ⟨131072, 128, 0⟩, ⟨262144, 2, 0⟩, ⟨524288, 262144, 32⟩, ⟨1048576, 655360, 80⟩, ⟨2097152, 1114112, 136⟩, ⟨16, 32768, 7⟩, ⟨32, 2097152, 1023⟩, ⟨64, 0, 2047⟩]⟩)) .z) .z))) (ah .z))
def WR : An := ah (ah .z)
def WS : An := ah (aP (.bk (ah (.cd (ah .z) (ah (.cd (ah .z) (ah (.cd (ah .z) (ah (.cd (ah .z) (ah (.cd (ah .z) .z))))))))))) (ah .z))
def WT : An := ah (aP (ah (.bk (ah (.cd (ah .z) (ah (.cd (aP (ah (ah (.cd (ah .z) .z))) (ah .z)) .z)))))) (ah (.bk (.lp [0, 1, 6] (.bk (aP (.rg [] [] (some ⟨[(true, 0), (true, 1), (true, 2), (true, 3), (true, 4), (true, 5), (true, 6), (false, 7), (true, 8), (true, 9), (true, 10), (true, 11), (true, 12), (true, 13)], [⟨34359738368, 1, 0⟩, ⟨68719476736, 34359738368, 1⟩, ⟨137438953472, 68719476736, 2⟩, ⟨274877906944, 137438953472, 4⟩, ⟨549755813888, 2, 0⟩, ⟨1099511627776, 824633720832, 24⟩, ⟨2199023255552, 1, 0⟩, ⟨4398046511104, 2199023255552, 64⟩, ⟨8796093022208, 5497558138880, 160⟩, ⟨17179869184, 8796093022208, 256⟩, ⟨17592186044416, 17179869184, 512⟩, ⟨35184372088832, 17179869184, 512⟩, ⟨128, 17592186044416, 2047⟩, ⟨256, 35184372088832, 8191⟩]⟩)) (aP (ah (.cd (ah .z) .z)) (ah (ah (aP (ah (.cd (ah (ah .z)) .z)) (ah (ah (.cd (ah .z) .z)))))))))))))
def WU : An := ah (ah (aP (.bk (.lp [0, 1, 5] (aP (aP (.rg [] [224, 254] none) (.cd .z .z)) (.bk cY)))) (ah .z)))
def WV : An := ah (ah .z)
def WW : An := ah (aP (ah (.bk (.lp [0, 1, 5] (aP (ah (.cd .z .z)) (aP (.bk (ah (.cd (ah .z) .z))) cY))))) (ah .z))
def WX : An := ah (ah .z)
def WY : An := ah (ah .z)
def WZ : An := ah (ah (aP (ah (.bk (.lp [0, 3, 4] (aP (ah (.cd .z .z)) (aP (.bk (aP (ah (.cd (ah .z) .z)) cY)) cY))))) (aP (ah (.cd (ah .z) .z)) (ah .z))))
def W0 : An := ah (ah .z)
def W1 : An := ah (ah .z)
def W2 : An := ah (ah (ah (aP (.rg [] [] (some ⟨[(true, 0), (true, 1), (true, 2), (false, 3), (true, 4), (false, 5), (true, 6)], [⟨8192, 16, 0⟩, ⟨16384, 128, 0⟩, ⟨32768, 1, 0⟩, ⟨65536, 32768, 4⟩, ⟨131072, 81920, 10⟩, ⟨262144, 139264, 25⟩, ⟨64, 262144, 63⟩]⟩)) .z)))
def W3 : An := ah (ah (.sq (some [0, 1]) (ah (.bk (ah (.cd (ah (.cd (ah .z) .z)) (ah (.cd (ah (aP (.bk (.lp [0, 6] (aP (ah (.cd .z .z)) (.bk (ah cY))))) (ah .z))) .z)))))) (ah (ah (aP (ah (.bk (.lp [0, 1, 7, 8, 9, 10] (aP (ah (.cd .z .z)) (.bk (ah (ah (.bk (.lp [0, 1, 7, 8, 9, 10, 11] (aP (ah (.cd .z .z)) (aP (.bk (ah (.cd (ah (aP (.rg [] [] (some ⟨[(true, 0), (true, 1), (true, 2), (true, 3), (true, 4), (true, 5), (true, 6), (true, 7), (true, 8), (true, 9), (false, 10), (true, 11), (false, 12), (true, 13)], [⟨590295810358705651712, 512, 0⟩, ⟨1180591620717411303424, 2048, 0⟩, ⟨2361183241434822606848, 1770887431076116955136, 3⟩, ⟨4722366482869645213696, 2361183241434822606848, 4⟩, ⟨9444732965739290427392, 32, 0⟩, ⟨18889465931478580854784, 14167099448608935641088, 24⟩, ⟨37778931862957161709568, 128, 0⟩, ⟨75557863725914323419136, 1, 0⟩, ⟨151115727451828646838272, 2, 0⟩, ⟨302231454903657293676544, 151115727451828646838272, 256⟩, ⟨604462909807314587353088, 377789318629571617095680, 640⟩, ⟨1208925819614629174706176, 642241841670271749062656, 1088⟩, ⟨2417851639229258349412352, 1227815285546107755560960, 3104⟩, ⟨128, 2417851639229258349412352, 8191⟩]⟩)) (ah .z))) .z))) cY))))))))))) (ah .z))))))
def W4 : An := ah (aP (ah (.bk (.lp [0, 1, 7, 8] (ah (aP (.cd .z .z) (aP (.bk (ah (ah (.cd (ah .z) .z)))) cY)))))) (ah .z))
def W5 : An := ah (aP (ah (.bk (.lp [1, 13] (ah (aP (.cd .z .z) (.bk (ah (ah (.bk (.lp [1, 5, 13, 20] (ah (aP (.cd .z .z) (.bk (ah (ah (.cd (ah .z) .z)))))))))))))))) (aP (.bk (ah (.cd (ah .z) (ah (.cd (ah .z) (ah (.cd (ah .z) .z))))))) (ah .z)))
def W6 : An := ah (aP (ah (.bk (.lp [0, 1, 7, 8] (ah (aP (.cd .z .z) (aP (.bk (ah (ah (.cd (ah .z) .z)))) cY)))))) (ah .z))
def W7 : An := ah (ah (aP (ah (ah (.cd (ah (ah (.sq (some [6]) (ah (.cd cY .z)) (ah .z)))) .z))) (aP (ah (.cd (ah (ah (ah .z))) .z)) (aP (ah (.cd (ah (ah (ah .z))) .z)) (ah (ah (.sq (some [9]) (ah (.cd (ah (ah cY)) .z)) (ah .z))))))))
def W8 : An := ah (aP (ah (ah (.cd (ah .z) .z))) (ah .z))
def W9 : An := ah (ah .z)
def Xa : An := ah (ah (.sq (some [3]) (.bk (ah (.cd cY (ah (.cd cY (ah (.cd cY (ah (.cd cY (ah (.cd cY (ah (.cd cY (ah (.cd cY (ah (.cd (ah (ah (ah .z))) (ah (ah (.cd (ah (ah (aP (.bk (.lp [0, 3, 5] (aP (ah (.cd .z .z)) (.bk cY)))) (ah (ah .z))))) .z)))))))))))))))))))) (ah .z)))
def Xb : An := ah (aP (ah (.bk (ah (.cd (ah .z) (ah (.cd (ah .z) (ah (.cd (ah .z) (ah (.cd (ah .z) (ah (.cd (ah .z) .z)))))))))))) (ah .z))
def Xc : An := ah (aP (.bk (ah (.cd (ah (ah (ah (ah (ah (ah .z)))))) (ah (.cd (ah (ah (ah (ah (ah (ah (ah (ah (ah (ah (ah .z))))))))))) .z))))) (ah .z))
def Xd : An := ah (ah (aP (.bk (ah (.cd (ah (ah (ah (aP (.bk (.lp [0, 3, 4] (aP (ah (.cd .z .z)) (.bk cY)))) (ah (aP (.rg [] [] (some ⟨[(true, 0), (true, 1), (true, 2), (false, 3), (true, 4), (false, 5), (true, 6)], [⟨134217728, 8, 0⟩, ⟨268435456, 16, 0⟩, ⟨536870912, 1, 0⟩, ⟨1073741824, 536870912, 4⟩, ⟨2147483648, 1342177280, 10⟩, ⟨4294967296, 2281701376, 25⟩, ⟨4, 4294967296, 63⟩]⟩)) .z)))))) (ah (.cd (ah (ah (ah (ah (ah (ah (ah (ah (ah (ah .z)))))))))) .z))))) (ah .z)))
def Xe : An := ah (ah (ah (ah .z)))
def Xf : An := ah (ah (ah .z))
section
variable (a0 a1 a2 a3 a4 a5 a6 : AV) (R : cS -> St -> Prop) (U : St)
def Ot : Prop :=
 (av aQ a1 U).wp K U (fun v6 U =>
 (aq .add aG true v6 (.int .i64 1)).wp K U (fun v7 U =>
 cD 4 [a0, a2, a3, v7] U fun lp v0 v2 v3 v5 U =>
 (av aQ v2 U).wp K U (fun v9 U =>
 (aq .lss aG false v5 v9).wp K U (fun v10 U =>
 ae K (au v10 true) (ag (some 0) v3) (fun v12 =>
 ae K (au v10 true) (ag (some 0) v12) (fun bN =>
 ae K (au v10 true) (av aQ bN U) (fun bS =>
 ae K (au v10 true) (aw.val v5) (fun bw =>
 ae K (au v10 true) (aH (some (43, 6)) none bS bw) (fun ca =>
 ae K (au v10 true) (ag (some 5) ca) (fun cm =>
 ae K (au v10 true) (av aQ cm U) (fun ck =>
 ae K (au v10 true) (aq .gtr aG true ck (.int .i64 0)) (fun cn =>
 (aY v10 cn (.bool false)).wp K U (fun v20 U =>
 ao v20 (
 (lz K.P v0 [v5]).wp K U (fun ep U =>
 (fZ .not ep).wp K U (fun dY U =>
 ao dY (
 al R (.aU []) U) (
 (ag (some 0) v3).wp K U (fun bY U =>
 (ag (some 0) bY).wp K U (fun cR U =>
 (av aQ cR U).wp K U (fun v24 U =>
 (aH (some (43, 6)) none v24 v5).wp K U (fun df U =>
 (ag (some 5) df).wp K U (fun di U =>
 (av aQ di U).wp K U (fun v28 U =>
 (aq .add aG false v5 v28).wp K U (fun cO U =>
 lp v0 v2 v3 cO U) (aa R)) (aa R)) (aa R)) (aa R)) (aa R)) (aa R)) (aa R))) (aa R)) (aa R)) (
 al R (.aU []) U)) (aa R)))))))))) (aa R)) (aa R)) (aa R)) (aa R)
def Ov : Prop :=
 ad K 99 [a0, (.int .u8 10)] U (ai (fun v7 U =>
 (aA (some (9, 1)) (some [.str []]) 3 false [(0, (.str yS)), (1, (.str tt)), (2, (.str jI))]).wp K U (fun v8 U =>
 (bD (some false) v8).wp K U (fun v9 U =>
 cD 5 [a0, v7, v8, v9, (.int .i64 0)] U fun lp v0 v3 de ic v10 U =>
 (aq .lss aG false v10 ic).wp K U (fun v11 U =>
 ao v11 (
 (aH (some (9, 1)) none de v10).wp K U (fun v12 U =>
 (av aQ v12 U).wp K U (fun bN U =>
 ad K 102 [v0, bN] U (ai (fun ca U =>
 ad K 169 [v0] U (ai (fun cn U =>
 (aA (some (87, 1)) (some [.bj]) 1 false [(0, cn)]).wp K U (fun v20 U =>
 ad K 103 [v3, v20] U (ai (fun v21 U =>
 (aq .add aG true v10 (.int .i64 1)).wp K U (fun bY U =>
 lp v0 v3 de ic bY U) (aa R)) (aa R))) (aa R)) (aa R))) (aa R))) (aa R)) (aa R)) (
 al R v3 U)) (aa R)) (aa R)) (aa R)) (aa R))
def Ox : Prop :=
 ad K 99 [a0, (.int .u8 11)] U (ai (fun v7 U =>
 (aA (some (9, 1)) (some [.str []]) 2 false [(0, (.str pQ)), (1, (.str AN))]).wp K U (fun v8 U =>
 (bD (some false) v8).wp K U (fun v9 U =>
 cD 5 [a0, v7, v8, v9, (.int .i64 0)] U fun lp v0 v3 de ic v10 U =>
 (aq .lss aG false v10 ic).wp K U (fun v11 U =>
 ao v11 (
 (aH (some (9, 1)) none de v10).wp K U (fun v12 U =>
 (av aQ v12 U).wp K U (fun bN U =>
 ad K 102 [v0, bN] U (ai (fun ca U =>
 ad K 169 [v0] U (ai (fun cn U =>
 (aA (some (87, 1)) (some [.bj]) 1 false [(0, cn)]).wp K U (fun v20 U =>
 ad K 103 [v3, v20] U (ai (fun v21 U =>
 (aq .add aG true v10 (.int .i64 1)).wp K U (fun bY U =>
 lp v0 v3 de ic bY U) (aa R)) (aa R))) (aa R)) (aa R))) (aa R))) (aa R)) (aa R)) (
 al R v3 U)) (aa R)) (aa R)) (aa R)) (aa R))
def Oz : Prop :=
 ad K 99 [a0, (.int .u8 12)] U (ai (fun v5 U =>
 ad K 102 [a0, (.str wP)] U (ai (fun v7 U =>
 ad K 101 [a0] U (ai (fun v10 U =>
 (aI v5).wp K U (fun v11 U =>
 (ag (some 0) v11).wp K U (fun v12 U =>
 (ag (some 1) v12).wp K U (fun bN U =>
 (aD aQ bN v10 U).wp K U (fun _ U =>
 ad K 102 [a0, (.str ja)] U (ai (fun bw U =>
 ad K 168 [a0] U (ai (fun ck U =>
 (aI v5).wp K U (fun cn U =>
 (ag (some 0) cn).wp K U (fun v20 U =>
 (ag (some 2) v20).wp K U (fun v21 U =>
 (aD aQ v21 ck U).wp K U (fun _ U =>
 ad K 102 [a0, (.str cx)] U (ai (fun cR U =>
 ad K 168 [a0] U (ai (fun df U =>
 (aI v5).wp K U (fun di U =>
 (ag (some 0) di).wp K U (fun v28 U =>
 (ag (some 3) v28).wp K U (fun cO U =>
 (aD aQ cO df U).wp K U (fun _ U =>
 ad K 102 [a0, (.str pv)] U (ai (fun v31 U =>
 ad K 169 [a0] U (ai (fun eK U =>
 (aA (some (87, 1)) (some [.bj]) 1 false [(0, eK)]).wp K U (fun ef U =>
 ad K 103 [v5, ef] U (ai (fun dH U =>
 al R dH U) (aa R))) (aa R)) (aa R))) (aa R))) (aa R)) (aa R)) (aa R)) (aa R)) (aa R))) (aa R))) (aa R)) (aa R)) (aa R)) (aa R)) (aa R))) (aa R))) (aa R)) (aa R)) (aa R)) (aa R)) (aa R))) (aa R))) (aa R))
def OB : Prop :=
 ad K 99 [a0, (.int .u8 13)] U (ai (fun v5 U =>
 ad K 102 [a0, (.str qZ)] U (ai (fun v7 U =>
 ad K 101 [a0] U (ai (fun v10 U =>
 (aI v5).wp K U (fun v11 U =>
 (ag (some 0) v11).wp K U (fun v12 U =>
 (ag (some 1) v12).wp K U (fun bN U =>
 (aD aQ bN v10 U).wp K U (fun _ U =>
 ad K 102 [a0, (.str pv)] U (ai (fun bw U =>
 ad K 169 [a0] U (ai (fun ck U =>
 (aA (some (87, 1)) (some [.bj]) 1 false [(0, ck)]).wp K U (fun cn U =>
 ad K 103 [v5, cn] U (ai (fun v20 U =>
 ad K 102 [a0, (.str jI)] U (ai (fun bY U =>
 ad K 169 [a0] U (ai (fun dz U =>
 (aA (some (87, 1)) (some [.bj]) 1 false [(0, dz)]).wp K U (fun df U =>
 ad K 103 [v5, df] U (ai (fun di U =>
 al R di U) (aa R))) (aa R)) (aa R))) (aa R))) (aa R))) (aa R)) (aa R))) (aa R))) (aa R)) (aa R)) (aa R)) (aa R)) (aa R))) (aa R))) (aa R))
def OD : Prop :=
 ad K 99 [a0, (.int .u8 15)] U (ai (fun v5 U =>
 ad K 102 [a0, (.str ly)] U (ai (fun v7 U =>
 ad K 169 [a0] U (ai (fun v10 U =>
 (aA (some (87, 1)) (some [.bj]) 1 false [(0, v10)]).wp K U (fun v11 U =>
 ad K 103 [v5, v11] U (ai (fun v12 U =>
 ad K 102 [a0, (.str jI)] U (ai (fun bS U =>
 ad K 169 [a0] U (ai (fun cm U =>
 (aA (some (87, 1)) (some [.bj]) 1 false [(0, cm)]).wp K U (fun ck U =>
 ad K 103 [v5, ck] U (ai (fun cn U =>
 al R cn U) (aa R))) (aa R)) (aa R))) (aa R))) (aa R))) (aa R)) (aa R))) (aa R))) (aa R))
def OF : Prop :=
 ad K 99 [a0, (.int .u8 14)] U (ai (fun v5 U =>
 ad K 102 [a0, (.str mI)] U (ai (fun v7 U =>
 ad K 101 [a0] U (ai (fun v10 U =>
 (aI v5).wp K U (fun v11 U =>
 (ag (some 0) v11).wp K U (fun v12 U =>
 (ag (some 1) v12).wp K U (fun bN U =>
 (aD aQ bN v10 U).wp K U (fun _ U =>
 ad K 102 [a0, (.str cx)] U (ai (fun bw U =>
 ad K 168 [a0] U (ai (fun ck U =>
 (aI v5).wp K U (fun cn U =>
 (ag (some 0) cn).wp K U (fun v20 U =>
 (ag (some 2) v20).wp K U (fun v21 U =>
 (aD aQ v21 ck U).wp K U (fun _ U =>
 ad K 102 [a0, (.str pv)] U (ai (fun cR U =>
 ad K 169 [a0] U (ai (fun df U =>
 (aA (some (87, 1)) (some [.bj]) 1 false [(0, df)]).wp K U (fun di U =>
 ad K 103 [v5, di] U (ai (fun v28 U =>
 al R v28 U) (aa R))) (aa R)) (aa R))) (aa R))) (aa R)) (aa R)) (aa R)) (aa R)) (aa R))) (aa R))) (aa R)) (aa R)) (aa R)) (aa R)) (aa R))) (aa R))) (aa R))
def OH : Prop :=
 (fun ay : St =>
 ar K (aI a0) (fun v4 =>
 ar K (ag (some 1) v4) (fun v5 =>
 ar K (av aQ v5 ay) (fun v6 =>
 ar K (aI a0) (fun v8 =>
 ar K (ag (some 0) v8) (fun v9 =>
 ar K (av aQ v9 ay) (fun v10 =>
 ar K (bD (some false) v10) (fun v11 =>
 ar K (aq .lss aG false v6 v11) (fun v12 =>
 ao v12 (
 (fun gS : St =>
 ar K (aI a0) (fun bS =>
 ar K (ag (some 0) bS) (fun bw =>
 ar K (av aQ bw gS) (fun ca =>
 ar K (aI a0) (fun ck =>
 ar K (ag (some 1) ck) (fun cn =>
 ar K (av aQ cn gS) (fun v20 =>
 ar K (aH (some (51, 3)) none ca v20) (fun v21 =>
 ar K (ag (some 2) v21) (fun bY =>
 ar K (av aQ bY gS) (fun cR =>
 al R cR U)))))))))) U) (
 (aI a0).wp K U (fun dz U =>
 (ag (some 2) dz).wp K U (fun df U =>
 (av aQ df U).wp K U (fun di U =>
 al R di U) (aa R)) (aa R)) (aa R))))))))))) U
def Zh : Prop :=
 ad K 167 [a0, (.int .i64 0)] U (ai (fun v7 U =>
 (aw.cJ [.int .u8 0, .str [], .int .i64 0]).wp K U (fun v5 U =>
 (aD (some (true, 3)) v5 v7 U).wp K U (fun _ U =>
 gb 2 (fun v0 ek U =>
 (aI v0).wp K U (fun bw U =>
 (ag (some 1) bw).wp K U (fun ca U =>
 (av aQ ca U).wp K U (fun cm U =>
 (aq .add aG true cm (.int .i64 1)).wp K U (fun ck U =>
 (aI v0).wp K U (fun cn U =>
 (ag (some 1) cn).wp K U (fun v20 U =>
 (aD aQ v20 ck U).wp K U (fun _ U =>
 (ag (some 1) ek).wp K U (fun v21 U =>
 (av aQ v21 U).wp K U (fun bY U =>
 al R bY U) (aa R)) (aa R)) (aa R)) (aa R)) (aa R)) (aa R)) (aa R)) (aa R)) (aa R)) fun j =>
 (ag (some 0) v5).wp K U (fun v8 U =>
 (av aQ v8 U).wp K U (fun v9 U =>
 (aq .neq aG false v9 a1).wp K U (fun v11 U =>
 ao v11 (
 ad K 166 [a0] U (ai (fun bN U =>
 j a0 v5 U) (aa R))) (
 j a0 v5 U)) (aa R)) (aa R)) (aa R)) (aa R)) (aa R)) (aa R))
def Zi : Prop :=
 ad K 164 [a0] U (ai (fun v3 U =>
 (bE (some [(0, 1)]) (some [.int .i64 0]) none [(0, v3)]).wp K U (fun v4 U =>
 (wh true 136 v4).wp K U (fun v5 U =>
 (th v5).wp K U (fun _ U =>
 al R (.aU []) U) (aa R)) (aa R)) (aa R)) (aa R))
def OL : Prop :=
 (aw.cJ [.int .u8 0, .str [], .int .i64 0]).wp K U (fun v4 U =>
 (fun ay : St =>
 ar K (aI a0) (fun v6 =>
 ar K (ag (some 1) v6) (fun v7 =>
 ar K (av aQ v7 ay) (fun v8 =>
 ar K (aq .add aG false v8 a1) (fun v10 =>
 ar K (aI a0) (fun v12 =>
 ar K (ag (some 0) v12) (fun bN =>
 ar K (av aQ bN ay) (fun bS =>
 ar K (bD (some false) bS) (fun bw =>
 ar K (aq .lss aG false v10 bw) (fun ca =>
 ao ca (
 (fun gS : St =>
 ar K (aI a0) (fun ck =>
 ar K (ag (some 0) ck) (fun cn =>
 ar K (av aQ cn gS) (fun v20 =>
 ar K (aI a0) (fun bY =>
 ar K (ag (some 1) bY) (fun cR =>
 ar K (av aQ cR gS) (fun v24 =>
 ar K (aq .add aG false v24 a1) (fun df =>
 ar K (aH (some (51, 3)) none v20 df) (fun di =>
 ar K (av (some (true, 3)) di gS) (fun v28 =>
 (aD (some (true, 3)) v4 v28 U).wp K U (fun _ U =>
 bL (some (true, 3)) v4 U fun r0 =>
 al R r0 U) (aa R))))))))))) U) (
 (bE (some [(0, 1), (1, 1), (2, 1)]) (some [.int .u8 0, .str [], .int .i64 0]) none []).wp K U (fun cO U =>
 (aD (some (true, 3)) v4 cO U).wp K U (fun _ U =>
 bL (some (true, 3)) v4 U fun lr =>
 al R lr U) (aa R)) (aa R)))))))))))) U) (aa R)
def Zj : Prop :=
 ad K 165 [a0, (.int .u8 2)] U (ai (fun v7 U =>
 ad K 218 [v7] U (ai (fun v8 U =>
 (aX v8 0).wp K U (fun v9 U =>
 (aX v8 1).wp K U (fun v10 U =>
 gb 1 (fun v3 U =>
 al R v3 U) fun j =>
 (aq .neq (BT.mk false true false none) true v10 .dq).wp K U (fun v12 U =>
 ao v12 (
 ad K 166 [a0] U (ai (fun bS U =>
 j v9 U) (aa R))) (
 j v9 U)) (aa R)) (aa R)) (aa R)) (aa R))) (aa R))
def OO : Prop :=
 ad K 167 [a0, (.int .i64 0)] U (ai (fun v8 U =>
 (aw.cJ [.int .u8 0, .str [], .int .i64 0]).wp K U (fun v3 U =>
 (aD (some (true, 3)) v3 v8 U).wp K U (fun _ U =>
 (fun ay : St =>
 ar K (aI a0) (fun v11 =>
 ar K (ag (some 4) v11) (fun v12 =>
 ar K (av aQ v12 ay) (fun bN =>
 ar K (ag (some 1) v3) (fun bS =>
 ar K (av aQ bS ay) (fun bw =>
 ar K (iB (some (.s, 186)) (some .jt) bN bw true ay) (fun ca =>
 ar K (aX ca 0) (fun cm =>
 ar K (aX ca 1) (fun ck =>
 ae K (au ck true) (ag (some 0) v3) (fun v21 =>
 ae K (au ck true) (av aQ v21 U) (fun bY =>
 ae K (au ck true) (aq .eql aG true bY (.int .u8 3)) (fun cR =>
 (aY ck cR (.bool false)).wp K U (fun v24 U =>
 ao v24 (
 (lz K.P cm [a0]).wp K U (fun di U =>
 al R di U) (aa R)) (
 gb 2 (fun v0 dH U =>
 ao dH (
 ad K 99 [v0, (.int .u8 16)] U (ai (fun eL U =>
 ad K 101 [v0] U (ai (fun gT U =>
 (aI eL).wp K U (fun kD U =>
 (ag (some 0) kD).wp K U (fun eJ U =>
 (ag (some 1) eJ).wp K U (fun jv U =>
 (aD aQ jv gT U).wp K U (fun _ U =>
 ad K 102 [v0, (.str cx)] U (ai (fun v46 U =>
 ad K 169 [v0] U (ai (fun v49 U =>
 (aA (some (87, 1)) (some [.bj]) 1 false [(0, v49)]).wp K U (fun fx U =>
 ad K 103 [eL, fx] U (ai (fun v51 U =>
 al R v51 U) (aa R))) (aa R)) (aa R))) (aa R))) (aa R)) (aa R)) (aa R)) (aa R)) (aa R))) (aa R))) (
 ad K 219 [v0, (.int .i64 2)] U (ai (fun v53 U =>
 al R v53 U) (aa R)))) fun j =>
 (ag (some 0) v3).wp K U (fun v28 U =>
 (av aQ v28 U).wp K U (fun cO U =>
 (aq .eql aG true cO (.int .u8 1)).wp K U (fun v30 U =>
 ae K (au v30 true) (aw.val a0) (fun ep =>
 ao (au v30 true) (
 ad K 167 [ep, (.int .i64 1)] U (ai (fun dY U =>
 ae K (au v30 true) (aA (some (9, 1)) (some [.str []]) 1 false [(0, (.str cx))]) (fun eK =>
 ae K (au v30 true) (aw.enter 121 [dY, eK]) (fun ef =>
 (aY v30 ef (.bool false)).wp K U (fun wK U =>
 j a0 wK U) (aa R)))) (aa R))) (
 ae K (au v30 true) (aA (some (9, 1)) (some [.str []]) 1 false [(0, (.str cx))]) (fun KT =>
 ae K (au v30 true) (aw.enter 121 [(.aU []), KT]) (fun B6 =>
 (aY v30 B6 (.bool false)).wp K U (fun abm U =>
 j a0 abm U) (aa R)))))) (aa R)) (aa R)) (aa R))) (aa R))))))))))))) U) (aa R)) (aa R)) (aa R))
def OQ : Prop :=
 (aq .eql aG true a0 (.int .u8 10)).wp K U (fun v4 U =>
 ae K (au v4 false) (aw.val a0) (fun v6 =>
 ae K (au v4 false) (aq .geq aG true v6 (.int .u8 32)) (fun v7 =>
 ae K (au v4 false) (aw.val v7) (fun v8 =>
 ae K (au v8 true) (aw.val a0) (fun v9 =>
 ae K (au v8 true) (aq .leq aG true v9 (.int .u8 126)) (fun v10 =>
 ae K (au v4 false) (aY v8 v10 (.bool false)) (fun v11 =>
 (aY v4 (.bool true) v11).wp K U (fun v12 U =>
 al R v12 U) (aa R)))))))) (aa R)
def OS : Prop :=
 cD 3 [a0, a1, a1] U fun lp v0 v1 v5 U =>
 (bD (some true) v0).wp K U (fun v9 U =>
 (aq .lss aG false v5 v9).wp K U (fun v10 U =>
 ae K (au v10 true) (aw.val v0) (fun v12 =>
 ae K (au v10 true) (aw.val v5) (fun bN =>
 ae K (au v10 true) (dU true none none v12 bN) (fun bS =>
 ae K (au v10 true) (aq .neq aG true bS (.int .u8 10)) (fun bw =>
 (aY v10 bw (.bool false)).wp K U (fun ca U =>
 ao ca (
 (aq .add aG true v5 (.int .i64 1)).wp K U (fun ck U =>
 lp v0 v1 ck U) (aa R)) (
 (fW true none v0 (some v1) (some v5)).wp K U (fun bY U =>
 al R bY U) (aa R))) (aa R)))))) (aa R)) (aa R)
def OU : Prop :=
 (aw.cJ [.int .u8 0, .str [], .int .i64 0]).wp K U (fun v4 U =>
 ad K 220 [a0, a1] U (ai (fun v12 U =>
 (aq .neq aG true v12 (.str w_)).wp K U (fun bw U =>
 ae K (au bw true) (aw.val v12) (fun cm =>
 ae K (au bw true) (dU true none none cm (.int .i64 0)) (fun ck =>
 ae K (au bw true) (aw.enter 221 [ck]) (fun cn =>
 (aY bw cn (.bool false)).wp K U (fun v20 U =>
 ao v20 (
 ad K 223 [] U (ai (fun v21 U =>
 ad K 222 [v21, v12] U (ai (fun cR U =>
 ao cR (
 (bE (some [(0, 1), (1, 1), (2, 1)]) (some [.int .u8 0, .str [], .int .i64 0]) none [(0, (.int .u8 3)), (1, v12), (2, a1)]).wp K U (fun df U =>
 (aD (some (true, 3)) v4 df U).wp K U (fun _ U =>
 bL (some (true, 3)) v4 U fun r0 =>
 al R (.aU [r0, (.int .i64 0)]) U) (aa R)) (aa R)) (
 (bD (some true) v12).wp K U (fun v28 U =>
 (aq .gtr aG true v28 (.int .i64 12)).wp K U (fun cO U =>
 ao cO (
 (bE (some [(0, 1), (1, 1), (2, 1)]) (some [.int .u8 0, .str [], .int .i64 0]) none []).wp K U (fun v30 U =>
 (aD (some (true, 3)) v4 v30 U).wp K U (fun _ U =>
 bL (some (true, 3)) v4 U fun lr =>
 al R (.aU [lr, (.int .i64 4)]) U) (aa R)) (aa R)) (
 (bE (some [(0, 1), (1, 1), (2, 1)]) (some [.int .u8 0, .str [], .int .i64 0]) none [(0, (.int .u8 1)), (1, v12), (2, a1)]).wp K U (fun dY U =>
 (aD (some (true, 3)) v4 dY U).wp K U (fun _ U =>
 bL (some (true, 3)) v4 U fun po =>
 al R (.aU [po, (.int .i64 0)]) U) (aa R)) (aa R))) (aa R)) (aa R))) (aa R))) (aa R))) (
 (aq .neq aG true v12 (.str w_)).wp K U (fun dH U =>
 ae K (au dH true) (aw.val v12) (fun eL =>
 ae K (au dH true) (dU true none none eL (.int .i64 0)) (fun gn =>
 ae K (au dH true) (aw.enter 224 [gn]) (fun v40 =>
 (aY dH v40 (.bool false)).wp K U (fun gT U =>
 ao gT (
 ad K 225 [v12] U (ai (fun eJ U =>
 (aq .neq aG true eJ (.int .i64 0)).wp K U (fun ig U =>
 ao ig (
 (bE (some [(0, 1), (1, 1), (2, 1)]) (some [.int .u8 0, .str [], .int .i64 0]) none []).wp K U (fun v46 U =>
 (aD (some (true, 3)) v4 v46 U).wp K U (fun _ U =>
 bL (some (true, 3)) v4 U fun Az =>
 al R (.aU [Az, eJ]) U) (aa R)) (aa R)) (
 (bE (some [(0, 1), (1, 1), (2, 1)]) (some [.int .u8 0, .str [], .int .i64 0]) none [(0, (.int .u8 2)), (1, v12), (2, a1)]).wp K U (fun fx U =>
 (aD (some (true, 3)) v4 fx U).wp K U (fun _ U =>
 bL (some (true, 3)) v4 U fun RG =>
 al R (.aU [RG, (.int .i64 0)]) U) (aa R)) (aa R))) (aa R)) (aa R))) (
 ad K 226 [] U (ai (fun v51 U =>
 cD 5 [a0, a1, v4, v51, (.int .i64 0)] U fun lp v0 v1 ee v8 v9 U =>
 (bD (some false) v8).wp K U (fun iQ U =>
 (aq .lss aG false v9 iQ).wp K U (fun gD U =>
 ao gD (
 (aH (some (9, 1)) none v8 v9).wp K U (fun oZ U =>
 (av aQ oZ U).wp K U (fun jZ U =>
 ad K 227 [v0, v1, jZ] U (ai (fun kY U =>
 ao kY (
 (aH (some (9, 1)) none v8 v9).wp K U (fun pP U =>
 (av aQ pP U).wp K U (fun lF U =>
 (bE (some [(0, 1), (1, 1), (2, 1)]) (some [.int .u8 0, .str [], .int .i64 0]) none [(0, (.int .u8 4)), (1, lF), (2, v1)]).wp K U (fun v70 U =>
 (aD (some (true, 3)) ee v70 U).wp K U (fun _ U =>
 bL (some (true, 3)) ee U fun Gx =>
 al R (.aU [Gx, (.int .i64 0)]) U) (aa R)) (aa R)) (aa R)) (aa R)) (
 (aq .add aG true v9 (.int .i64 1)).wp K U (fun jx U =>
 lp v0 v1 ee v8 jx U) (aa R))) (aa R))) (aa R)) (aa R)) (
 (bE (some [(0, 1), (1, 1), (2, 1)]) (some [.int .u8 0, .str [], .int .i64 0]) none []).wp K U (fun jq U =>
 (aD (some (true, 3)) ee jq U).wp K U (fun _ U =>
 bL (some (true, 3)) ee U fun RH =>
 al R (.aU [RH, (.int .i64 4)]) U) (aa R)) (aa R))) (aa R)) (aa R)) (aa R)))) (aa R))))) (aa R))) (aa R))))) (aa R)) (aa R))) (aa R)
def OW : Prop :=
 (fun ay : St =>
 ar K (aI a0) (fun v6 =>
 ar K (ag (some 2) v6) (fun v7 =>
 ar K (av aQ v7 ay) (fun v8 =>
 ar K (fZ .not v8) (fun v9 =>
 ae K (au v9 true) (aw.val a0) (fun v11 =>
 ae K (au v9 true) (aI v11) (fun v12 =>
 ae K (au v9 true) (ag (some 1) v12) (fun bN =>
 ae K (au v9 true) (av aQ bN ay) (fun bS =>
 ae K (au v9 true) (aw.val a0) (fun bw =>
 ae K (au v9 true) (aI bw) (fun ca =>
 ae K (au v9 true) (ag (some 0) ca) (fun cm =>
 ae K (au v9 true) (av aQ cm ay) (fun ck =>
 ae K (au v9 true) (bD (some false) ck) (fun cn =>
 ae K (au v9 true) (aq .lss aG false bS cn) (fun v20 =>
 ar K (aY v9 v20 (.bool false)) (fun v21 =>
 ae K (au v21 true) (aw.val a0) (fun cR =>
 ae K (au v21 true) (aI cR) (fun v24 =>
 ae K (au v21 true) (ag (some 0) v24) (fun dz =>
 ae K (au v21 true) (av aQ dz ay) (fun df =>
 ae K (au v21 true) (aw.val a0) (fun di =>
 ae K (au v21 true) (aI di) (fun v28 =>
 ae K (au v21 true) (ag (some 1) v28) (fun cO =>
 ae K (au v21 true) (av aQ cO ay) (fun v30 =>
 ae K (au v21 true) (aH (some (51, 3)) none df v30) (fun v31 =>
 ae K (au v21 true) (ag (some 1) v31) (fun ep =>
 ae K (au v21 true) (av aQ ep ay) (fun dY =>
 ae K (au v21 true) (aw.val a1) (fun eK =>
 ae K (au v21 true) (aq .eql aG false dY eK) (fun ef =>
 ar K (aY v21 ef (.bool false)) (fun dH =>
 ae K (au dH true) (aw.val a0) (fun eL =>
 ae K (au dH true) (aI eL) (fun gn =>
 ae K (au dH true) (ag (some 0) gn) (fun v40 =>
 ae K (au dH true) (av aQ v40 ay) (fun gT =>
 ae K (au dH true) (aw.val a0) (fun kD =>
 ae K (au dH true) (aI kD) (fun eJ =>
 ae K (au dH true) (ag (some 1) eJ) (fun jv =>
 ae K (au dH true) (av aQ jv ay) (fun ig =>
 ae K (au dH true) (aH (some (51, 3)) none gT ig) (fun v46 =>
 ae K (au dH true) (ag (some 0) v46) (fun jH =>
 ae K (au dH true) (av aQ jH ay) (fun gp =>
 ae K (au dH true) (aq .eql aG true gp (.int .u8 3)) (fun v49 =>
 ae K (au dH true) (aw.val v49) (fun fx =>
 ae K (au fx false) (aw.val a0) (fun v51 =>
 ae K (au fx false) (aI v51) (fun iD =>
 ae K (au fx false) (ag (some 0) iD) (fun v53 =>
 ae K (au fx false) (av aQ v53 ay) (fun iQ =>
 ae K (au fx false) (aw.val a0) (fun gD =>
 ae K (au fx false) (aI gD) (fun lE =>
 ae K (au fx false) (ag (some 1) lE) (fun jx =>
 ae K (au fx false) (av aQ jx ay) (fun kX =>
 ae K (au fx false) (aH (some (51, 3)) none iQ kX) (fun v59 =>
 ae K (au fx false) (ag (some 0) v59) (fun jY =>
 ae K (au fx false) (av aQ jY ay) (fun tZ =>
 ae K (au fx false) (aq .eql aG true tZ (.int .u8 4)) (fun oZ =>
 ae K (au dH true) (aY fx (.bool true) oZ) (fun jZ =>
 ar K (aY dH jZ (.bool false)) (fun kY =>
 al R kY U))))))))))))))))))))))))))))))))))))))))))))))))))))))))) U
def OY : Prop :=
 (fun ay : St =>
 ar K (aI a0) (fun v6 =>
 ar K (ag (some 2) v6) (fun v7 =>
 ar K (av aQ v7 ay) (fun v8 =>
 ar K (fZ .not v8) (fun v9 =>
 ae K (au v9 true) (aw.val a0) (fun v11 =>
 ae K (au v9 true) (aI v11) (fun v12 =>
 ae K (au v9 true) (ag (some 1) v12) (fun bN =>
 ae K (au v9 true) (av aQ bN ay) (fun bS =>
 ae K (au v9 true) (aw.val a0) (fun bw =>
 ae K (au v9 true) (aI bw) (fun ca =>
 ae K (au v9 true) (ag (some 0) ca) (fun cm =>
 ae K (au v9 true) (av aQ cm ay) (fun ck =>
 ae K (au v9 true) (bD (some false) ck) (fun cn =>
 ae K (au v9 true) (aq .lss aG false bS cn) (fun v20 =>
 ar K (aY v9 v20 (.bool false)) (fun v21 =>
 ae K (au v21 true) (aw.val a0) (fun cR =>
 ae K (au v21 true) (aI cR) (fun v24 =>
 ae K (au v21 true) (ag (some 0) v24) (fun dz =>
 ae K (au v21 true) (av aQ dz ay) (fun df =>
 ae K (au v21 true) (aw.val a0) (fun di =>
 ae K (au v21 true) (aI di) (fun v28 =>
 ae K (au v21 true) (ag (some 1) v28) (fun cO =>
 ae K (au v21 true) (av aQ cO ay) (fun v30 =>
 ae K (au v21 true) (aH (some (51, 3)) none df v30) (fun v31 =>
 ae K (au v21 true) (ag (some 0) v31) (fun ep =>
 ae K (au v21 true) (av aQ ep ay) (fun dY =>
 ae K (au v21 true) (aw.val a1) (fun eK =>
 ae K (au v21 true) (aq .eql aG false dY eK) (fun ef =>
 ar K (aY v21 ef (.bool false)) (fun dH =>
 al R dH U)))))))))))))))))))))))))))))) U
def O0 : Prop :=
 ad K 174 [a0, (.int .u8 2)] U (ai (fun v7 U =>
 (fZ .not v7).wp K U (fun v8 U =>
 ao v8 (
 (aI a0).wp K U (fun v10 U =>
 (ag (some 2) v10).wp K U (fun v11 U =>
 (aD aQ v11 (.bool true) U).wp K U (fun _ U =>
 al R (.int .i64 0) U) (aa R)) (aa R)) (aa R)) (
 (aI a0).wp K U (fun bN U =>
 (ag (some 1) bN).wp K U (fun bS U =>
 (av aQ bS U).wp K U (fun bw U =>
 (aq .add aG true bw (.int .i64 1)).wp K U (fun ca U =>
 (aI a0).wp K U (fun cm U =>
 (ag (some 1) cm).wp K U (fun ck U =>
 (aD aQ ck ca U).wp K U (fun _ U =>
 (fun ay : St =>
 ar K (aI a0) (fun v20 =>
 ar K (ag (some 0) v20) (fun v21 =>
 ar K (av aQ v21 ay) (fun bY =>
 ar K (aI a0) (fun v24 =>
 ar K (ag (some 1) v24) (fun dz =>
 ar K (av aQ dz ay) (fun df =>
 ar K (aq .sub aG true df (.int .i64 1)) (fun di =>
 ar K (aH (some (51, 3)) none bY di) (fun v28 =>
 ar K (ag (some 1) v28) (fun cO =>
 ar K (av aQ cO ay) (fun v30 =>
 cD 3 [(.int .i64 0), v30, (.int .i64 0)] U fun lp v3 v4 v5 U =>
 (bD (some true) v4).wp K U (fun dY U =>
 (aq .lss aG false v5 dY).wp K U (fun eK U =>
 ao eK (
 (aq .mul aG true (.int .i64 10) v3).wp K U (fun eL U =>
 (dU true none none v4 v5).wp K U (fun gT U =>
 (aq .sub aG true gT (.int .u8 48)).wp K U (fun kD U =>
 (se (some .i64) true false false kD).wp K U (fun eJ U =>
 (aq .add aG false eL eJ).wp K U (fun jv U =>
 (aq .add aG true v5 (.int .i64 1)).wp K U (fun dH U =>
 lp jv v4 dH U) (aa R)) (aa R)) (aa R)) (aa R)) (aa R)) (aa R)) (
 al R v3 U)) (aa R)) (aa R)))))))))))) U) (aa R)) (aa R)) (aa R)) (aa R)) (aa R)) (aa R)) (aa R))) (aa R)) (aa R))
def O5 : Prop :=
 ad K 113 [a0] U (ai (fun v7 U =>
 (bE (some [(0, 1), (1, 1), (2, 1), (3, 1), (4, 1), (5, 1)]) (some [.int .u8 0, .str [], .int .i64 0, .int .i64 0, .int .i64 0, .int .i64 0]) none [(4, v7)]).wp K U (fun v8 U =>
 (aw.cJ [.int .u8 0, .str [], .int .i64 0, .int .i64 0, .int .i64 0, .int .i64 0]).wp K U (fun v3 U =>
 (aD (some (true, 6)) v3 v8 U).wp K U (fun _ U =>
 ad K 114 [a0, (.str yS)] U (ai (fun v11 U =>
 ao v11 (
 ad K 176 [a0] U (ai (fun bN U =>
 ad K 116 [a0, (.str tt)] U (ai (fun bw U =>
 ad K 176 [a0] U (ai (fun cm U =>
 ad K 116 [a0, (.str jI)] U (ai (fun cn U =>
 (ag (some 0) v3).wp K U (fun v20 U =>
 (aD aQ v20 (.int .u8 10) U).wp K U (fun _ U =>
 (fun ay : St => ∃ B : List Nat,
 (∀ b ∈ cr v3 ++ [], b ∈ B) /\
 ar K (av (some (true, 6)) v3 ay) (fun v21 =>
 ad K 176 [a0] U (ai (fun dz U => cv (B) ay U /\
 ar K (aA (some (23, 1)) (some [.ak]) 3 false [(0, bN), (1, cm), (2, dz)]) (fun df =>
 ad K 60 [v21, df] U (ai (fun di U => cv (B) ay U /\
 al R di U) (aa R)))) (aa R)))) U) (aa R)) (aa R)) (aa R))) (aa R))) (aa R))) (aa R))) (
 ad K 114 [a0, (.str pQ)] U (ai (fun v30 U =>
 ao v30 (
 (ag (some 0) v3).wp K U (fun v31 U =>
 (aD aQ v31 (.int .u8 11) U).wp K U (fun _ U =>
 (av (some (true, 6)) v3 U).wp K U (fun dY U =>
 ad K 228 [a0, dY, (.str AN)] U (ai (fun eK U =>
 al R eK U) (aa R))) (aa R)) (aa R)) (aa R)) (
 ad K 114 [a0, (.str wP)] U (ai (fun v37 U =>
 ao v37 (
 ad K 115 [a0] U (ai (fun gn U =>
 (ag (some 0) v3).wp K U (fun v40 U =>
 (aD aQ v40 (.int .u8 12) U).wp K U (fun _ U =>
 (ag (some 1) v3).wp K U (fun gT U =>
 (aD aQ gT gn U).wp K U (fun _ U =>
 ad K 116 [a0, (.str ja)] U (ai (fun eJ U =>
 ad K 175 [a0] U (ai (fun ig U =>
 (ag (some 2) v3).wp K U (fun v46 U =>
 (aD aQ v46 ig U).wp K U (fun _ U =>
 ad K 116 [a0, (.str cx)] U (ai (fun gp U =>
 ad K 175 [a0] U (ai (fun fx U =>
 (ag (some 3) v3).wp K U (fun v51 U =>
 (aD aQ v51 fx U).wp K U (fun _ U =>
 ad K 116 [a0, (.str pv)] U (ai (fun v53 U =>
 (fun gS : St => ∃ B : List Nat,
 (∀ b ∈ cr v3 ++ [], b ∈ B) /\
 ar K (av (some (true, 6)) v3 gS) (fun iQ =>
 ad K 176 [a0] U (ai (fun lE U => cv (B) gS U /\
 ar K (aA (some (23, 1)) (some [.ak]) 1 false [(0, lE)]) (fun jx =>
 ad K 60 [iQ, jx] U (ai (fun kX U => cv (B) gS U /\
 al R kX U) (aa R)))) (aa R)))) U) (aa R))) (aa R)) (aa R)) (aa R))) (aa R))) (aa R)) (aa R)) (aa R))) (aa R))) (aa R)) (aa R)) (aa R)) (aa R)) (aa R))) (
 ad K 114 [a0, (.str qZ)] U (ai (fun tZ U =>
 ao tZ (
 ad K 115 [a0] U (ai (fun jZ U =>
 (ag (some 0) v3).wp K U (fun kY U =>
 (aD aQ kY (.int .u8 13) U).wp K U (fun _ U =>
 (ag (some 1) v3).wp K U (fun nA U =>
 (aD aQ nA jZ U).wp K U (fun _ U =>
 ad K 116 [a0, (.str pv)] U (ai (fun pP U =>
 (av (some (true, 6)) v3 U).wp K U (fun rM U =>
 ad K 228 [a0, rM, (.str jI)] U (ai (fun v70 U =>
 al R v70 U) (aa R))) (aa R)) (aa R))) (aa R)) (aa R)) (aa R)) (aa R)) (aa R))) (
 ad K 114 [a0, (.str mI)] U (ai (fun ua U =>
 ao ua (
 ad K 115 [a0] U (ai (fun v75 U =>
 (ag (some 0) v3).wp K U (fun v76 U =>
 (aD aQ v76 (.int .u8 14) U).wp K U (fun _ U =>
 (ag (some 1) v3).wp K U (fun zX U =>
 (aD aQ zX v75 U).wp K U (fun _ U =>
 ad K 116 [a0, (.str cx)] U (ai (fun yO U =>
 ad K 175 [a0] U (ai (fun vB U =>
 (ag (some 2) v3).wp K U (fun Ee U =>
 (aD aQ Ee vB U).wp K U (fun _ U =>
 ad K 116 [a0, (.str pv)] U (ai (fun B7 U =>
 (fun KY : St => ∃ B : List Nat,
 (∀ b ∈ cr v3 ++ [], b ∈ B) /\
 ar K (av (some (true, 6)) v3 KY) (fun v85 =>
 ad K 176 [a0] U (ai (fun v87 U => cv (B) KY U /\
 ar K (aA (some (23, 1)) (some [.ak]) 1 false [(0, v87)]) (fun B8 =>
 ad K 60 [v85, B8] U (ai (fun G3 U => cv (B) KY U /\
 al R G3 U) (aa R)))) (aa R)))) U) (aa R))) (aa R)) (aa R)) (aa R))) (aa R))) (aa R)) (aa R)) (aa R)) (aa R)) (aa R))) (
 ad K 114 [a0, (.str ly)] U (ai (fun G4 U =>
 ao G4 (
 (ag (some 0) v3).wp K U (fun v93 U =>
 (aD aQ v93 (.int .u8 15) U).wp K U (fun _ U =>
 (av (some (true, 6)) v3 U).wp K U (fun zY U =>
 ad K 228 [a0, zY, (.str jI)] U (ai (fun Jf U =>
 al R Jf U) (aa R))) (aa R)) (aa R)) (aa R)) (
 (fun zq : St => ∃ B : List Nat,
 ad K 174 [a0, (.int .u8 1)] U (ai (fun xl U => cv (B) zq U /\
 ae K (au xl true) (aw.val a0) (fun GW =>
 ae K (au xl true) (aI GW) (fun yL =>
 ae K (au xl true) (ag (some 1) yL) (fun Da =>
 (∀ b ∈ cr Da ++ [], b ∈ B) /\
 ae K (au xl true) (av aQ Da zq) (fun yM =>
 ae K (au xl true) (aq .add aG true yM (.int .i64 1)) (fun v105 =>
 ae K (au xl true) (aw.val a0) (fun GX =>
 ae K (au xl true) (aI GX) (fun v107 =>
 ae K (au xl true) (ag (some 0) v107) (fun Db =>
 (∀ b ∈ cr Db ++ [], b ∈ B) /\
 ae K (au xl true) (av aQ Db zq) (fun v109 =>
 ae K (au xl true) (bD (some false) v109) (fun Sw =>
 ae K (au xl true) (aq .lss aG false v105 Sw) (fun Sx =>
 ar K (aY xl Sx (.bool false)) (fun oK =>
 ae K (au oK true) (aw.val a0) (fun Sy =>
 ae K (au oK true) (aI Sy) (fun acH =>
 ae K (au oK true) (ag (some 0) acH) (fun wH =>
 (∀ b ∈ cr wH ++ [], b ∈ B) /\
 ae K (au oK true) (av aQ wH zq) (fun v117 =>
 ae K (au oK true) (aw.val a0) (fun Sz =>
 ae K (au oK true) (aI Sz) (fun SA =>
 ae K (au oK true) (ag (some 1) SA) (fun KO =>
 (∀ b ∈ cr KO ++ [], b ∈ B) /\
 ae K (au oK true) (av aQ KO zq) (fun SB =>
 ae K (au oK true) (aq .add aG true SB (.int .i64 1)) (fun SC =>
 ae K (au oK true) (aH (some (51, 3)) none v117 SC) (fun wI =>
 ae K (au oK true) (ag (some 1) wI) (fun v124 =>
 (∀ b ∈ cr v124 ++ [], b ∈ B) /\
 ae K (au oK true) (av aQ v124 zq) (fun SD =>
 ae K (au oK true) (aq .eql aG true SD (.str cx)) (fun SE =>
 ar K (aY oK SE (.bool false)) (fun v127 =>
 ao v127 (
 ad K 115 [a0] U (ai (fun SF U =>
 (ag (some 0) v3).wp K U (fun v130 U =>
 (aD aQ v130 (.int .u8 16) U).wp K U (fun _ U =>
 (ag (some 1) v3).wp K U (fun v131 U =>
 (aD aQ v131 SF U).wp K U (fun _ U =>
 ad K 116 [a0, (.str cx)] U (ai (fun Zy U =>
 (fun KZ : St => ∃ B : List Nat,
 (∀ b ∈ cr v3 ++ [], b ∈ B) /\
 ar K (av (some (true, 6)) v3 KZ) (fun acJ =>
 ad K 176 [a0] U (ai (fun acK U => cv (B) KZ U /\
 ar K (aA (some (23, 1)) (some [.ak]) 1 false [(0, acK)]) (fun SG =>
 ad K 60 [acJ, SG] U (ai (fun v138 U => cv (B) KZ U /\
 al R v138 U) (aa R)))) (aa R)))) U) (aa R))) (aa R)) (aa R)) (aa R)) (aa R)) (aa R))) (
 ad K 229 [a0, (.int .i64 0)] U (ai (fun GZ U =>
 al R GZ U) (aa R)))))))))))))))))))))))))))))) (aa R))) U)) (aa R)))) (aa R)))) (aa R)))) (aa R)))) (aa R)))) (aa R))) (aa R)) (aa R)) (aa R)) (aa R))
def O7 : Prop :=
 ad K 173 [a0, (.str fA)] U (ai (fun v4 U =>
 ae K (au v4 false) (aw.val a0) (fun v6 =>
 ao (au v4 false) (
 ad K 173 [v6, (.str jS)] U (ai (fun v7 U =>
 (aY v4 (.bool true) v7).wp K U (fun v8 U =>
 ae K (au v8 false) (aw.val a0) (fun v10 =>
 ao (au v8 false) (
 ad K 173 [v10, (.str ff)] U (ai (fun v11 U =>
 (aY v8 (.bool true) v11).wp K U (fun v12 U =>
 al R v12 U) (aa R)) (aa R))) (
 (aY v8 (.bool true) (.aU [])).wp K U (fun abj U =>
 al R abj U) (aa R)))) (aa R)) (aa R))) (
 (aY v4 (.bool true) (.aU [])).wp K U (fun de U =>
 ae K (au de false) (aw.val a0) (fun kG =>
 ao (au de false) (
 ad K 173 [kG, (.str ff)] U (ai (fun EJ U =>
 (aY de (.bool true) EJ).wp K U (fun abk U =>
 al R abk U) (aa R)) (aa R))) (
 (aY de (.bool true) (.aU [])).wp K U (fun abl U =>
 al R abl U) (aa R)))) (aa R)))) (aa R))
def Zk : Prop :=
 ad K 230 [a0, a1] U (ai (fun v7 U =>
 (aq .geq aG true v7 (.int .i64 0)).wp K U (fun v8 U =>
 al R v8 U) (aa R)) (aa R))
def Pa : Prop :=
 (aq .geq aG true a0 (.int .u8 2)).wp K U (fun v4 U =>
 ae K (au v4 true) (aw.val a0) (fun v6 =>
 ae K (au v4 true) (aq .leq aG true v6 (.int .u8 4)) (fun v7 =>
 (aY v4 v7 (.bool false)).wp K U (fun v8 U =>
 al R v8 U) (aa R)))) (aa R)
def GH : Prop :=
 (bD (some false) a0).wp K U (fun v7 U =>
 cD 4 [a0, a1, v7, (.int .i64 0)] U fun lp v0 v1 lx v8 U =>
 (aq .lss aG false v8 lx).wp K U (fun v9 U =>
 ao v9 (
 (aH (some (3, 1)) none v0 v8).wp K U (fun bS U =>
 (av aQ bS U).wp K U (fun bw U =>
 (lz K.P v1 [bw]).wp K U (fun ca U =>
 ao ca (
 al R v8 U) (
 (aq .add aG true v8 (.int .i64 1)).wp K U (fun ck U =>
 lp v0 v1 lx ck U) (aa R))) (aa R)) (aa R)) (aa R)) (
 al R (.int .i64 (-1)) U)) (aa R)) (aa R)
def Pc : Prop :=
 (jb a0).wp K U (fun v1 U =>
 (ag (some 1) v1).wp K U (fun v5 U =>
 (av aQ v5 U).wp K U (fun v6 U =>
 (aq .eql aG true v6 (.str w_)).wp K U (fun v7 U =>
 ao v7 (
 al R (.bool false) U) (
 (ag (some 1) v1).wp K U (fun v9 U =>
 (av aQ v9 U).wp K U (fun v10 U =>
 ad K 172 [v10, (.int .i64 0)] U (ai (fun v11 U =>
 (aX v11 0).wp K U (fun v12 U =>
 (aX v11 1).wp K U (fun bN U =>
 (aw.cJ [.int .u8 0, .str [], .int .i64 0]).wp K U (fun v3 U =>
 (aD (some (true, 3)) v3 v12 U).wp K U (fun _ U =>
 (aq .eql aG true bN (.int .i64 0)).wp K U (fun bw U =>
 ae K (au bw true) (ag (some 0) v3) (fun cm =>
 ae K (au bw true) (av aQ cm U) (fun ck =>
 ae K (au bw true) (ag (some 0) v1) (fun cn =>
 ae K (au bw true) (av aQ cn U) (fun v20 =>
 ae K (au bw true) (aq .eql aG false ck v20) (fun v21 =>
 (aY bw v21 (.bool false)).wp K U (fun bY U =>
 ae K (au bY true) (ag (some 1) v3) (fun v24 =>
 ae K (au bY true) (av aQ v24 U) (fun dz =>
 ae K (au bY true) (ag (some 1) v1) (fun df =>
 ae K (au bY true) (av aQ df U) (fun di =>
 ae K (au bY true) (aq .eql aG false dz di) (fun v28 =>
 (aY bY v28 (.bool false)).wp K U (fun cO U =>
 al R cO U) (aa R))))))) (aa R))))))) (aa R)) (aa R)) (aa R)) (aa R)) (aa R)) (aa R))) (aa R)) (aa R))) (aa R)) (aa R)) (aa R)) (aa R)
def Zl : Prop :=
 ad K 243 [a0, a1] U (ai (fun v10 U =>
 (aq .geq aG true v10 (.int .i64 0)).wp K U (fun v12 U =>
 ao v12 (
 (fun ay : St =>
 ar K (fW true none a0 none (some v10)) (fun bw =>
 ar K (bD (some true) a1) (fun cn =>
 ar K (aq .add aG false v10 cn) (fun v20 =>
 ar K (fW true none a0 (some v20) none) (fun v21 =>
 al R (.aU [bw, v21, (.bool true)]) U))))) U) (
 al R (.aU [a0, (.str w_), (.bool false)]) U)) (aa R)) (aa R))
def Zm : Prop :=
 ad K 246 [a0, a1] U (ai (fun v7 U =>
 (aq .geq aG true v7 (.int .i64 0)).wp K U (fun v8 U =>
 al R v8 U) (aa R)) (aa R))
def Pf : Prop :=
 (aq .eql aG true a0 (.int .u8 32)).wp K U (fun v5 U =>
 ae K (au v5 false) (aw.val a0) (fun v7 =>
 ae K (au v5 false) (aq .eql aG true v7 (.int .u8 10)) (fun v8 =>
 (aY v5 (.bool true) v8).wp K U (fun v9 U =>
 ao v9 (
 al R (.int .i64 1) U) (
 (aq .lss aG true a0 (.int .u8 32)).wp K U (fun v12 U =>
 ae K (au v12 false) (aw.val a0) (fun bS =>
 ae K (au v12 false) (aq .gtr aG true bS (.int .u8 126)) (fun bw =>
 (aY v12 (.bool true) bw).wp K U (fun ca U =>
 ao ca (
 al R (.int .i64 0) U) (
 (aq .geq aG true a0 (.int .u8 48)).wp K U (fun cn U =>
 ae K (au cn true) (aw.val a0) (fun v21 =>
 ae K (au cn true) (aq .leq aG true v21 (.int .u8 57)) (fun bY =>
 (aY cn bY (.bool false)).wp K U (fun cR U =>
 ao cR (
 al R (.int .i64 2) U) (
 (aq .geq aG true a0 (.int .u8 97)).wp K U (fun df U =>
 ae K (au df true) (aw.val a0) (fun v28 =>
 ae K (au df true) (aq .leq aG true v28 (.int .u8 122)) (fun cO =>
 (aY df cO (.bool false)).wp K U (fun v30 U =>
 ao v30 (
 al R (.int .i64 3) U) (
 (aq .geq aG true a0 (.int .u8 65)).wp K U (fun dY U =>
 ae K (au dY true) (aw.val a0) (fun ef =>
 ae K (au dY true) (aq .leq aG true ef (.int .u8 90)) (fun dH =>
 (aY dY dH (.bool false)).wp K U (fun v37 U =>
 ao v37 (
 al R (.int .i64 4) U) (
 al R (.int .i64 5) U)) (aa R)))) (aa R))) (aa R)))) (aa R))) (aa R)))) (aa R))) (aa R)))) (aa R))) (aa R)))) (aa R)
def Ph : Prop :=
 (aq .eql aG true a1 (.int .i64 9)).wp K U (fun v12 U =>
 ao v12 (
 ad K 252 [a0] U (ai (fun bS U =>
 al R bS U) (aa R))) (
 (aq .eql aG true a1 (.int .i64 4)).wp K U (fun ca U =>
 ao ca (
 ad K 99 [a0, (.int .u8 19)] U (ai (fun ck U =>
 ad K 100 [a0, (.str Cg)] U (ai (fun v20 U =>
 ao v20 (
 ad K 219 [a0, (.int .i64 4)] U (ai (fun cR U =>
 (aA (some (87, 1)) (some [.bj]) 1 false [(0, cR)]).wp K U (fun v24 U =>
 ad K 103 [ck, v24] U (ai (fun dz U =>
 al R dz U) (aa R))) (aa R)) (aa R))) (
 (aq .add aG true a1 (.int .i64 1)).wp K U (fun v28 U =>
 ad K 219 [a0, v28] U (ai (fun cO U =>
 al R cO U) (aa R))) (aa R))) (aa R))) (aa R))) (
 (aq .add aG true a1 (.int .i64 1)).wp K U (fun ep U =>
 ad K 219 [a0, ep] U (ai (fun dY U =>
 cD 3 [a0, a1, dY] U fun lp v0 v1 v6 U =>
 (fun ay : St =>
 ar K (aI v0) (fun dH =>
 ar K (ag (some 3) dH) (fun v37 =>
 ar K (av aQ v37 ay) (fun eL =>
 ar K (iB (some (.i, 185)) (some .kx) eL v1 false ay) (fun v40 =>
 ad K 253 [v0] U (ai (fun kD U => cv ((cr eL ++ (cr v1 ++ [])) ++ ((cr v37 ++ []) ++ [])) ay U /\
 (∀ b ∈ cr v40 ++ (cr kD ++ []), b ∈ (cr eL ++ (cr v1 ++ [])) ++ ((cr v37 ++ []) ++ [])) /\
 ar K (iB (some (.s, 5)) (some (.int .u8 0)) v40 kD true ay) (fun eJ =>
 ar K (aX eJ 0) (fun jv =>
 ar K (aX eJ 1) (fun ig =>
 (fZ .not ig).wp K U (fun jH U =>
 ao jH (
 al R v6 U) (
 ad K 99 [v0, jv] U (ai (fun v51 U =>
 (aI v0).wp K U (fun v53 U =>
 (ag (some 1) v53).wp K U (fun iQ U =>
 (av aQ iQ U).wp K U (fun gD U =>
 (aq .add aG true gD (.int .i64 1)).wp K U (fun lE U =>
 (aI v0).wp K U (fun jx U =>
 (ag (some 1) jx).wp K U (fun kX U =>
 (aD aQ kX lE U).wp K U (fun _ U =>
 (aq .eql aG true v1 (.int .i64 8)).wp K U (fun jY U =>
 ao jY (
 ad K 168 [v0] U (ai (fun jZ U =>
 (aI v51).wp K U (fun kY U =>
 (ag (some 0) kY).wp K U (fun nA U =>
 (ag (some 2) nA).wp K U (fun qt U =>
 (aD aQ qt jZ U).wp K U (fun _ U =>
 (aA (some (87, 1)) (some [.bj]) 1 false [(0, v6)]).wp K U (fun rM U =>
 ad K 103 [v51, rM] U (ai (fun v70 U =>
 lp v0 v1 v70 U) (aa R))) (aa R)) (aa R)) (aa R)) (aa R)) (aa R)) (aa R))) (
 (aq .add aG true v1 (.int .i64 1)).wp K U (fun v75 U =>
 ad K 219 [v0, v75] U (ai (fun v76 U =>
 (aA (some (87, 1)) (some [.bj]) 2 false [(0, v6), (1, v76)]).wp K U (fun zX U =>
 ad K 103 [v51, zX] U (ai (fun o0 U =>
 (aq .eql aG true v1 (.int .i64 5)).wp K U (fun v80 U =>
 ao v80 (
 al R o0 U) (
 lp v0 v1 o0 U)) (aa R)) (aa R))) (aa R)) (aa R))) (aa R))) (aa R)) (aa R)) (aa R)) (aa R)) (aa R)) (aa R)) (aa R)) (aa R)) (aa R)))) (aa R))))) (aa R))))))) U) (aa R))) (aa R))) (aa R))) (aa R)
def Pk : Prop :=
 cD 3 [a0, a1, a1] U fun lp v0 v1 v5 U =>
 (bD (some true) v0).wp K U (fun v9 U =>
 (aq .lss aG false v5 v9).wp K U (fun v10 U =>
 ae K (au v10 true) (aw.val v0) (fun v12 =>
 ae K (au v10 true) (aw.val v5) (fun bN =>
 ae K (au v10 true) (dU true none none v12 bN) (fun bS =>
 ae K (au v10 true) (aw.enter 254 [bS]) (fun bw =>
 ae K (au v10 true) (aw.val bw) (fun ca =>
 ae K (au ca false) (aw.val v0) (fun cm =>
 ae K (au ca false) (aw.val v5) (fun ck =>
 ae K (au ca false) (dU true none none cm ck) (fun cn =>
 ae K (au ca false) (aw.enter 224 [cn]) (fun v20 =>
 ae K (au v10 true) (aY ca (.bool true) v20) (fun v21 =>
 (aY v10 v21 (.bool false)).wp K U (fun bY U =>
 ao bY (
 (aq .add aG true v5 (.int .i64 1)).wp K U (fun v24 U =>
 lp v0 v1 v24 U) (aa R)) (
 (fW true none v0 (some v1) (some v5)).wp K U (fun v28 U =>
 al R v28 U) (aa R))) (aa R)))))))))))) (aa R)) (aa R)
def Pn : Prop :=
 (aq .geq aG true a0 (.int .u8 97)).wp K U (fun v4 U =>
 ae K (au v4 true) (aw.val a0) (fun v6 =>
 ae K (au v4 true) (aq .leq aG true v6 (.int .u8 122)) (fun v7 =>
 (aY v4 v7 (.bool false)).wp K U (fun v8 U =>
 al R v8 U) (aa R)))) (aa R)
def Pp : Prop :=
 cD 3 [a0, a1, (.int .i64 0)] U fun lp v0 v1 v5 U =>
 (bD (some false) v0).wp K U (fun v8 U =>
 (aq .lss aG false v5 v8).wp K U (fun v9 U =>
 ao v9 (
 (aH (some (9, 1)) none v0 v5).wp K U (fun bS U =>
 (av aQ bS U).wp K U (fun bw U =>
 (aq .eql aG false bw v1).wp K U (fun cm U =>
 ao cm (
 al R (.bool true) U) (
 (aq .add aG true v5 (.int .i64 1)).wp K U (fun v11 U =>
 lp v0 v1 v11 U) (aa R))) (aa R)) (aa R)) (aa R)) (
 al R (.bool false) U)) (aa R)) (aa R)
def Pr : Prop :=
 (aA (some (9, 1)) (some [.str []]) 30 false [(0, (.str ub)), (1, (.str tq)), (2, (.str yP)), (3, (.str rN)), (4, (.str ly)), (5, (.str Ce)), (6, (.str jS)), (7, (.str AN)), (8, (.str jI)), (9, (.str ff)), (10, (.str gG)), (11, (.str Dc)), (12, (.str Cf)), (13, (.str kZ)), (14, (.str yS)), (15, (.str fA)), (16, (.str pv)), (17, (.str wN)), (18, (.str mS)), (19, (.str qZ)), (20, (.str wP)), (21, (.str Cg)), (22, (.str mI)), (23, (.str ZI)), (24, (.str yT)), (25, (.str Ch)), (26, (.str jJ)), (27, (.str tt)), (28, (.str gq)), (29, (.str pQ))]).wp K U (fun v1 U =>
 al R v1 U) (aa R)
def Pt : Prop :=
 (aq .geq aG true a0 (.int .u8 48)).wp K U (fun v4 U =>
 ae K (au v4 true) (aw.val a0) (fun v6 =>
 ae K (au v4 true) (aq .leq aG true v6 (.int .u8 57)) (fun v7 =>
 (aY v4 v7 (.bool false)).wp K U (fun v8 U =>
 al R v8 U) (aa R)))) (aa R)
def Pv : Prop :=
 cD 3 [a0, (.int .i64 0), (.int .i64 0)] U fun lp v0 v3 v4 U =>
 (bD (some true) v0).wp K U (fun v7 U =>
 (aq .lss aG false v4 v7).wp K U (fun v8 U =>
 ao v8 (
 (dU true none none v0 v4).wp K U (fun bN U =>
 ad K 224 [bN] U (ai (fun bS U =>
 (fZ .not bS).wp K U (fun bw U =>
 ae K (au bw false) (aw.val v4) (fun cm =>
 ae K (au bw false) (aq .gtr aG true cm (.int .i64 0)) (fun ck =>
 ae K (au bw false) (aw.val ck) (fun cn =>
 ae K (au cn true) (aw.val v0) (fun v20 =>
 ae K (au cn true) (dU true none none v20 (.int .i64 0)) (fun v21 =>
 ae K (au cn true) (aq .eql aG true v21 (.int .u8 48)) (fun bY =>
 ae K (au bw false) (aY cn bY (.bool false)) (fun cR =>
 (aY bw (.bool true) cR).wp K U (fun v24 U =>
 ao v24 (
 al R (.int .i64 4) U) (
 (aq .mul aG true (.int .i64 10) v3).wp K U (fun df U =>
 (dU true none none v0 v4).wp K U (fun cO U =>
 (aq .sub aG true cO (.int .u8 48)).wp K U (fun v30 U =>
 (se (some .i64) true false false v30).wp K U (fun v31 U =>
 (aq .add aG false df v31).wp K U (fun ep U =>
 (ux ep (.int .i64 1000001)).wp K U (fun dY U =>
 (aq .add aG true v4 (.int .i64 1)).wp K U (fun v10 U =>
 lp v0 dY v10 U) (aa R)) (aa R)) (aa R)) (aa R)) (aa R)) (aa R)) (aa R))) (aa R))))))))) (aa R)) (aa R))) (aa R)) (
 (aq .gtr aG true v3 (.int .i64 1000000)).wp K U (fun ef U =>
 ao ef (
 al R (.int .i64 3) U) (
 al R (.int .i64 0) U)) (aa R))) (aa R)) (aa R)
def Px : Prop :=
 (aA (some (9, 1)) (some [.str []]) 16 false [(0, (.str cx)), (1, (.str gy)), (2, (.str lJ)), (3, (.str sv)), (4, (.str sr)), (5, (.str su)), (6, (.str so)), (7, (.str o8)), (8, (.str fR)), (9, (.str eF)), (10, (.str wM)), (11, (.str zn)), (12, (.str nB)), (13, (.str gE)), (14, (.str ja)), (15, (.str zm))]).wp K U (fun v1 U =>
 al R v1 U) (aa R)
def Pz : Prop :=
 (bD (some true) a0).wp K U (fun v8 U =>
 (aq .sub aG false v8 a1).wp K U (fun v10 U =>
 (bD (some true) a2).wp K U (fun v12 U =>
 (aq .geq aG false v10 v12).wp K U (fun bN U =>
 ae K (au bN true) (aw.val a0) (fun bw =>
 ae K (au bN true) (aw.val a1) (fun ca =>
 ae K (au bN true) (aw.val a1) (fun cm =>
 ae K (au bN true) (aw.val a2) (fun ck =>
 ae K (au bN true) (bD (some true) ck) (fun cn =>
 ae K (au bN true) (aq .add aG false cm cn) (fun v20 =>
 ae K (au bN true) (fW true none bw (some ca) (some v20)) (fun v21 =>
 ae K (au bN true) (aw.val a2) (fun bY =>
 ae K (au bN true) (aq .eql aG false v21 bY) (fun cR =>
 (aY bN cR (.bool false)).wp K U (fun v24 U =>
 al R v24 U) (aa R))))))))))) (aa R)) (aa R)) (aa R)) (aa R)
def PB : Prop :=
 (jb a1).wp K U (fun v4 U =>
 ad K 176 [a0] U (ai (fun v9 U =>
 ad K 116 [a0, a2] U (ai (fun v12 U =>
 (fun ay : St =>
 ar K (av (some (true, 6)) v4 ay) (fun bN =>
 ad K 176 [a0] U (ai (fun ca U => cv ((cr v4 ++ []) ++ []) ay U /\
 ar K (aA (some (23, 1)) (some [.ak]) 2 false [(0, v9), (1, ca)]) (fun cm =>
 ad K 60 [bN, cm] U (ai (fun ck U => cv ((cr v4 ++ []) ++ []) ay U /\
 al R ck U) (aa R)))) (aa R)))) U) (aa R))) (aa R))) (aa R)
def PD : Prop :=
 ad K 113 [a0] U (ai (fun bN U =>
 gb 2 (fun v0 v1 U =>
 (aq .add aG true v1 (.int .i64 1)).wp K U (fun eJ U =>
 ad K 229 [v0, eJ] U (ai (fun jv U =>
 ad K 256 [v1] U (ai (fun jH U =>
 (aX jH 0).wp K U (fun gp U =>
 (aX jH 1).wp K U (fun v49 U =>
 cD 6 [v0, v1, jv, gp, v49, (.bool true)] U fun lp fD gi v7 v8 v9 v10 U =>
 ao v10 (
 cD 7 [fD, gi, v7, v8, v9, (.bool false), (.int .i64 0)] U fun pg jD nr lx de ic kG v11 U =>
 (bD (some false) de).wp K U (fun v53 U =>
 (aq .lss aG false v11 v53).wp K U (fun iQ U =>
 ao iQ (
 (aH (some (9, 1)) none de v11).wp K U (fun jY U =>
 (av aQ jY U).wp K U (fun tZ U =>
 ad K 173 [jD, tZ] U (ai (fun oZ U =>
 ao oZ (
 (aH (some (9, 1)) none de v11).wp K U (fun qt U =>
 (av aQ qt U).wp K U (fun pP U =>
 ad K 116 [jD, pP] U (ai (fun lF U =>
 (fun ay : St =>
 ar K (aH (some (5, 1)) none ic v11) (fun jq =>
 ar K (av aQ jq ay) (fun v72 =>
 ar K (bE (some [(0, 1), (1, 1), (2, 1), (3, 1), (4, 1), (5, 1)]) (some [.int .u8 0, .str [], .int .i64 0, .int .i64 0, .int .i64 0, .int .i64 0]) none [(0, v72), (4, lF)]) (fun tn =>
 ar K (aq .add aG true nr (.int .i64 1)) (fun o0 =>
 ad K 229 [jD, o0] U (ai (fun yO U => cv ((cr jq ++ []) ++ []) ay U /\
 ar K (aA (some (23, 1)) (some [.ak]) 2 false [(0, lx), (1, yO)]) (fun v80 =>
 ad K 60 [tn, v80] U (ai (fun vB U => cv ((cr jq ++ []) ++ []) ay U /\
 (aq .neq aG true nr (.int .i64 3)).wp K U (fun vC U =>
 lp jD nr vB de ic vC U) (aa R)) (aa R)))) (aa R))))))) U) (aa R))) (aa R)) (aa R)) (
 (aq .add aG true v11 (.int .i64 1)).wp K U (fun lE U =>
 pg jD nr lx de ic kG lE U) (aa R))) (aa R))) (aa R)) (aa R)) (
 lp jD nr lx de ic kG U)) (aa R)) (aa R)) (
 al R v7 U)) (aa R)) (aa R)) (aa R))) (aa R))) (aa R)) fun j =>
 (aq .eql aG true a1 (.int .i64 2)).wp K U (fun ca U =>
 ao ca (
 ad K 114 [a0, (.str Cg)] U (ai (fun ck U =>
 ao ck (
 (bE (some [(0, 1), (1, 1), (2, 1), (3, 1), (4, 1), (5, 1)]) (some [.int .u8 0, .str [], .int .i64 0, .int .i64 0, .int .i64 0, .int .i64 0]) none [(0, (.int .u8 19)), (4, bN)]).wp K U (fun v20 U =>
 ad K 229 [a0, (.int .i64 2)] U (ai (fun bY U =>
 (aA (some (23, 1)) (some [.ak]) 1 false [(0, bY)]).wp K U (fun cR U =>
 ad K 60 [v20, cR] U (ai (fun v24 U =>
 al R v24 U) (aa R))) (aa R)) (aa R))) (aa R)) (
 j a0 a1 U)) (aa R))) (
 (aq .eql aG true a1 (.int .i64 6)).wp K U (fun df U =>
 ao df (
 ad K 255 [a0] U (ai (fun v28 U =>
 cD 2 [a0, v28] U fun Ga KN v6 U =>
 ad K 173 [KN, (.str tq)] U (ai (fun v30 U =>
 ao v30 (
 ad K 116 [KN, (.str tq)] U (ai (fun ep U =>
 ad K 175 [KN] U (ai (fun eK U =>
 (bE (some [(0, 1), (1, 1), (2, 1), (3, 1), (4, 1), (5, 1)]) (some [.int .u8 0, .str [], .int .i64 0, .int .i64 0, .int .i64 0, .int .i64 0]) none [(0, (.int .u8 25)), (2, eK), (4, ep)]).wp K U (fun dH U =>
 (aA (some (23, 1)) (some [.ak]) 1 false [(0, v6)]).wp K U (fun eL U =>
 ad K 60 [dH, eL] U (ai (fun gn U =>
 Ga KN gn U) (aa R))) (aa R)) (aa R)) (aa R))) (aa R))) (
 al R v6 U)) (aa R))) (aa R))) (
 j a0 a1 U)) (aa R))) (aa R)) (aa R))
def PF : Prop :=
 (bD (some false) a0).wp K U (fun v7 U =>
 cD 4 [a0, a1, v7, (.int .i64 0)] U fun lp v0 v1 lx v8 U =>
 (aq .lss aG false v8 lx).wp K U (fun v9 U =>
 ao v9 (
 (aH (some (9, 1)) none v0 v8).wp K U (fun bS U =>
 (av aQ bS U).wp K U (fun bw U =>
 (aq .eql aG false v1 bw).wp K U (fun ca U =>
 ao ca (
 al R v8 U) (
 (aq .add aG true v8 (.int .i64 1)).wp K U (fun ck U =>
 lp v0 v1 lx ck U) (aa R))) (aa R)) (aa R)) (aa R)) (
 al R (.int .i64 (-1)) U)) (aa R)) (aa R)
def PH : Prop :=
 (aI a0).wp K U (fun v10 U =>
 (ag (some 2) v10).wp K U (fun v11 U =>
 (av aQ v11 U).wp K U (fun v12 U =>
 (yr (some (.i, 185)) v12).wp K U (fun bN U =>
 cD 2 [a1, bN] U fun lp v1 KP U =>
 (si KP U).wp K U (fun bS U =>
 (aX bS 0).wp K U (fun bw U =>
 ao bw (
 (oO KP U).wp K U (fun ca U =>
 (aX ca 0).wp K U (fun cm U =>
 (aX ca 1).wp K U (fun ck U =>
 (yr (some (.s, 5)) ck).wp K U (fun v20 U =>
 cD 4 [v1, cm, KP, v20] U fun pg gi v5 Ur KS U =>
 (si KS U).wp K U (fun v21 U =>
 (aX v21 0).wp K U (fun bY U =>
 ao bY (
 (oO KS U).wp K U (fun cR U =>
 (aX cR 1).wp K U (fun v24 U =>
 (aq .eql aG false v24 gi).wp K U (fun di U =>
 ao di (
 al R v5 U) (
 pg gi v5 Ur KS U)) (aa R)) (aa R)) (aa R)) (
 lp gi Ur U)) (aa R)) (aa R)) (aa R)) (aa R)) (aa R)) (aa R)) (
 (aq .eql aG true v1 (.int .u8 9)).wp K U (fun v31 U =>
 ao v31 (
 al R (.int .i64 0) U) (
 (aq .eql aG true v1 (.int .u8 19)).wp K U (fun eK U =>
 ao eK (
 al R (.int .i64 4) U) (
 (aq .geq aG true v1 (.int .u8 10)).wp K U (fun v37 U =>
 ae K (au v37 true) (aw.val v1) (fun gn =>
 ae K (au v37 true) (aq .leq aG true gn (.int .u8 16)) (fun v40 =>
 (aY v37 v40 (.bool false)).wp K U (fun gT U =>
 ao gT (
 al R (.int .i64 1) U) (
 al R (.int .i64 9) U)) (aa R)))) (aa R))) (aa R))) (aa R))) (aa R)) (aa R)) (aa R)) (aa R)) (aa R)) (aa R)
def PJ : Prop :=
 (bD (some false) a0).wp K U (fun v7 U =>
 cD 4 [a0, a1, v7, (.int .i64 0)] U fun lp v0 v1 lx v8 U =>
 (aq .lss aG false v8 lx).wp K U (fun v9 U =>
 ao v9 (
 (aH (some (178, 1)) none v0 v8).wp K U (fun bS U =>
 (av aQ bS U).wp K U (fun bw U =>
 (aq .eql aG false v1 bw).wp K U (fun ca U =>
 ao ca (
 al R v8 U) (
 (aq .add aG true v8 (.int .i64 1)).wp K U (fun ck U =>
 lp v0 v1 lx ck U) (aa R))) (aa R)) (aa R)) (aa R)) (
 al R (.int .i64 (-1)) U)) (aa R)) (aa R)
def PL : Prop :=
 (aw.EC).wp K U (fun v10 U =>
 (jO (some (.s, 5)) v10 (.str gq) (.int .u8 27) U).wp K U (fun _ U =>
 (jO (some (.s, 5)) v10 (.str gG) (.int .u8 28) U).wp K U (fun _ U =>
 (jO (some (.s, 5)) v10 (.str jJ) (.int .u8 29) U).wp K U (fun _ U =>
 (jO (some (.s, 5)) v10 (.str kZ) (.int .u8 30) U).wp K U (fun _ U =>
 (jO (some (.s, 5)) v10 (.str mS) (.int .u8 31) U).wp K U (fun _ U =>
 (jO (some (.s, 5)) v10 (.str o8) (.int .u8 32) U).wp K U (fun _ U =>
 ad K 253 [a0] U (ai (fun bw U =>
 (iB (some (.s, 5)) (some (.int .u8 0)) v10 bw true U).wp K U (fun ca U =>
 (aX ca 0).wp K U (fun cm U =>
 (aX ca 1).wp K U (fun ck U =>
 ao ck (
 ad K 99 [a0, cm] U (ai (fun bY U =>
 (aI a0).wp K U (fun v24 U =>
 (ag (some 1) v24).wp K U (fun dz U =>
 (av aQ dz U).wp K U (fun df U =>
 (aq .add aG true df (.int .i64 1)).wp K U (fun di U =>
 (aI a0).wp K U (fun v28 U =>
 (ag (some 1) v28).wp K U (fun cO U =>
 (aD aQ cO di U).wp K U (fun _ U =>
 gb 1 (fun v6 U =>
 al R v6 U) fun j =>
 (aq .eql aG true cm (.int .u8 31)).wp K U (fun v31 U =>
 ae K (au v31 false) (aw.val cm) (fun dY =>
 ae K (au v31 false) (aq .eql aG true dY (.int .u8 32)) (fun eK =>
 (aY v31 (.bool true) eK).wp K U (fun ef U =>
 ao ef (
 ad K 101 [a0] U (ai (fun eL U =>
 (aI bY).wp K U (fun gn U =>
 (ag (some 0) gn).wp K U (fun v40 U =>
 (ag (some 1) v40).wp K U (fun gT U =>
 (aD aQ gT eL U).wp K U (fun _ U =>
 j bY U) (aa R)) (aa R)) (aa R)) (aa R)) (aa R))) (
 j bY U)) (aa R)))) (aa R)) (aa R)) (aa R)) (aa R)) (aa R)) (aa R)) (aa R)) (aa R)) (aa R))) (
 ad K 100 [a0, (.str fR)] U (ai (fun jv U =>
 ao jv (
 ad K 109 [a0] U (ai (fun v46 U =>
 ad K 102 [a0, (.str eF)] U (ai (fun gp U =>
 al R v46 U) (aa R))) (aa R))) (
 ad K 167 [a0, (.int .i64 0)] U (ai (fun v51 U =>
 (rA (some (0, false, 1)) v51).wp K U (fun iD U =>
 (aq .eql aG true iD (.int .u8 2)).wp K U (fun v53 U =>
 ao v53 (
 ad K 99 [a0, (.int .u8 26)] U (ai (fun gD U =>
 ad K 168 [a0] U (ai (fun kX U =>
 (aI gD).wp K U (fun v59 U =>
 (ag (some 0) v59).wp K U (fun jY U =>
 (ag (some 2) jY).wp K U (fun tZ U =>
 (aD aQ tZ kX U).wp K U (fun _ U =>
 al R gD U) (aa R)) (aa R)) (aa R)) (aa R)) (aa R))) (aa R))) (
 ad K 99 [a0, (.int .u8 33)] U (ai (fun kY U =>
 ad K 101 [a0] U (ai (fun pP U =>
 (aI kY).wp K U (fun lF U =>
 (ag (some 0) lF).wp K U (fun rM U =>
 (ag (some 1) rM).wp K U (fun v70 U =>
 (aD aQ v70 pP U).wp K U (fun _ U =>
 gb 1 (fun v9 U =>
 al R v9 U) fun tL =>
 ad K 100 [a0, (.str fR)] U (ai (fun v72 U =>
 ao v72 (
 (aI kY).wp K U (fun tn U =>
 (ag (some 0) tn).wp K U (fun v75 U =>
 (ag (some 0) v75).wp K U (fun v76 U =>
 (aD aQ v76 (.int .u8 34) U).wp K U (fun _ U =>
 ad K 106 [a0, kY, (.func (.func 269) [a0] [])] U (ai (fun vB U =>
 ad K 102 [a0, (.str eF)] U (ai (fun vC U =>
 tL kY U) (aa R))) (aa R))) (aa R)) (aa R)) (aa R)) (aa R)) (
 tL kY U)) (aa R))) (aa R)) (aa R)) (aa R)) (aa R)) (aa R))) (aa R)))) (aa R)) (aa R)) (aa R)))) (aa R)))) (aa R)) (aa R)) (aa R)) (aa R))) (aa R)) (aa R)) (aa R)) (aa R)) (aa R)) (aa R)) (aa R)
def PN : Prop :=
 ad K 167 [a0, (.int .i64 0)] U (ai (fun v5 U =>
 (aw.cJ [.int .u8 0, .str [], .int .i64 0]).wp K U (fun v3 U =>
 (aD (some (true, 3)) v3 v5 U).wp K U (fun _ U =>
 (ag (some 0) v3).wp K U (fun v6 U =>
 (av aQ v6 U).wp K U (fun v7 U =>
 (aq .eql aG true v7 (.int .u8 3)).wp K U (fun v8 U =>
 ae K (au v8 false) (ag (some 0) v3) (fun v10 =>
 ae K (au v8 false) (av aQ v10 U) (fun v11 =>
 ae K (au v8 false) (aq .eql aG true v11 (.int .u8 4)) (fun v12 =>
 (aY v8 (.bool true) v12).wp K U (fun bN U =>
 ao bN (
 (ag (some 1) v3).wp K U (fun bS U =>
 (av aQ bS U).wp K U (fun bw U =>
 al R bw U) (aa R)) (aa R)) (
 al R (.str w_) U)) (aa R))))) (aa R)) (aa R)) (aa R)) (aa R)) (aa R)) (aa R))
def PQ : Prop :=
 ad K 221 [a0] U (ai (fun v4 U =>
 ae K (au v4 false) (aw.val a0) (fun v6 =>
 ae K (au v4 false) (aq .geq aG true v6 (.int .u8 65)) (fun v7 =>
 ae K (au v4 false) (aw.val v7) (fun v8 =>
 ae K (au v8 true) (aw.val a0) (fun v9 =>
 ae K (au v8 true) (aq .leq aG true v9 (.int .u8 90)) (fun v10 =>
 ae K (au v4 false) (aY v8 v10 (.bool false)) (fun v11 =>
 (aY v4 (.bool true) v11).wp K U (fun v12 U =>
 al R v12 U) (aa R)))))))) (aa R))
def PT : Prop :=
 ad K 113 [a0] U (ai (fun v7 U =>
 (bE (some [(0, 1), (1, 1), (2, 1), (3, 1), (4, 1), (5, 1)]) (some [.int .u8 0, .str [], .int .i64 0, .int .i64 0, .int .i64 0, .int .i64 0]) none [(4, v7)]).wp K U (fun v8 U =>
 (aw.cJ [.int .u8 0, .str [], .int .i64 0, .int .i64 0, .int .i64 0, .int .i64 0]).wp K U (fun v3 U =>
 (aD (some (true, 6)) v3 v8 U).wp K U (fun _ U =>
 gb 1 (fun fI U =>
 (av (some (true, 6)) fI U).wp K U (fun v75 U =>
 ad K 60 [v75, .ak] U (ai (fun v76 U =>
 al R v76 U) (aa R))) (aa R)) fun j =>
 ad K 174 [a0, (.int .u8 2)] U (ai (fun ep U =>
 ao ep (
 ad K 175 [a0] U (ai (fun eK U =>
 (ag (some 0) v3).wp K U (fun ef U =>
 (aD aQ ef (.int .u8 26) U).wp K U (fun _ U =>
 (ag (some 2) v3).wp K U (fun dH U =>
 (aD aQ dH eK U).wp K U (fun _ U =>
 j v3 U) (aa R)) (aa R)) (aa R)) (aa R)) (aa R))) (
 ad K 114 [a0, (.str gq)] U (ai (fun gn U =>
 ao gn (
 (ag (some 0) v3).wp K U (fun v40 U =>
 (aD aQ v40 (.int .u8 27) U).wp K U (fun _ U =>
 j v3 U) (aa R)) (aa R)) (
 ad K 114 [a0, (.str gG)] U (ai (fun eJ U =>
 ao eJ (
 (ag (some 0) v3).wp K U (fun jv U =>
 (aD aQ jv (.int .u8 28) U).wp K U (fun _ U =>
 j v3 U) (aa R)) (aa R)) (
 ad K 114 [a0, (.str jJ)] U (ai (fun jH U =>
 ao jH (
 (ag (some 0) v3).wp K U (fun gp U =>
 (aD aQ gp (.int .u8 29) U).wp K U (fun _ U =>
 j v3 U) (aa R)) (aa R)) (
 ad K 114 [a0, (.str kZ)] U (ai (fun v51 U =>
 ao v51 (
 (ag (some 0) v3).wp K U (fun iD U =>
 (aD aQ iD (.int .u8 30) U).wp K U (fun _ U =>
 j v3 U) (aa R)) (aa R)) (
 ad K 114 [a0, (.str mS)] U (ai (fun gD U =>
 ao gD (
 ad K 115 [a0] U (ai (fun jx U =>
 (ag (some 0) v3).wp K U (fun kX U =>
 (aD aQ kX (.int .u8 31) U).wp K U (fun _ U =>
 (ag (some 1) v3).wp K U (fun v59 U =>
 (aD aQ v59 jx U).wp K U (fun _ U =>
 j v3 U) (aa R)) (aa R)) (aa R)) (aa R)) (aa R))) (
 ad K 114 [a0, (.str o8)] U (ai (fun oZ U =>
 ao oZ (
 ad K 115 [a0] U (ai (fun kY U =>
 (ag (some 0) v3).wp K U (fun nA U =>
 (aD aQ nA (.int .u8 32) U).wp K U (fun _ U =>
 (ag (some 1) v3).wp K U (fun qt U =>
 (aD aQ qt kY U).wp K U (fun _ U =>
 j v3 U) (aa R)) (aa R)) (aa R)) (aa R)) (aa R))) (
 ad K 114 [a0, (.str fR)] U (ai (fun rM U =>
 ao rM (
 ad K 120 [a0] U (ai (fun jq U =>
 ad K 116 [a0, (.str eF)] U (ai (fun ua U =>
 al R jq U) (aa R))) (aa R))) (
 ad K 115 [a0] U (ai (fun v10 U =>
 (ag (some 0) v3).wp K U (fun v11 U =>
 (aD aQ v11 (.int .u8 33) U).wp K U (fun _ U =>
 (ag (some 1) v3).wp K U (fun v12 U =>
 (aD aQ v12 v10 U).wp K U (fun _ U =>
 ad K 114 [a0, (.str fR)] U (ai (fun bS U =>
 ao bS (
 (ag (some 0) v3).wp K U (fun bw U =>
 (aD aQ bw (.int .u8 34) U).wp K U (fun _ U =>
 ad K 270 [a0] U (ai (fun cm U =>
 cD 3 [a0, v3, cm] U fun lp v0 uK v5 U =>
 ad K 114 [v0, (.str nB)] U (ai (fun cn U =>
 ao cn (
 ad K 270 [v0] U (ai (fun bY U =>
 (dc (some (43, 6)) false v5 bY U).wp K U (fun cR U =>
 lp v0 uK cR U) (aa R)) (aa R))) (
 ad K 116 [v0, (.str eF)] U (ai (fun dz U =>
 (av (some (true, 6)) uK U).wp K U (fun df U =>
 (aA (some (23, 1)) (some [.ak]) 1 false [(0, v5)]).wp K U (fun v28 U =>
 ad K 60 [df, v28] U (ai (fun cO U =>
 al R cO U) (aa R))) (aa R)) (aa R)) (aa R)))) (aa R))) (aa R))) (aa R)) (aa R)) (
 j v3 U)) (aa R))) (aa R)) (aa R)) (aa R)) (aa R)) (aa R)))) (aa R)))) (aa R)))) (aa R)))) (aa R)))) (aa R)))) (aa R)))) (aa R)))) (aa R))) (aa R)) (aa R)) (aa R)) (aa R))
def PV : Prop :=
 (aq .eql aG true a0 (.int .i64 0)).wp K U (fun v6 U =>
 ao v6 (
 (aA (some (9, 1)) (some [.str []]) 1 false [(0, (.str yT))]).wp K U (fun v7 U =>
 (aA (some (5, 1)) (some [.int .u8 0]) 1 false [(0, (.int .u8 17))]).wp K U (fun v8 U =>
 al R (.aU [v7, v8]) U) (aa R)) (aa R)) (
 (aq .eql aG true a0 (.int .i64 1)).wp K U (fun v10 U =>
 ao v10 (
 (aA (some (9, 1)) (some [.str []]) 1 false [(0, (.str ub))]).wp K U (fun v11 U =>
 (aA (some (5, 1)) (some [.int .u8 0]) 1 false [(0, (.int .u8 18))]).wp K U (fun v12 U =>
 al R (.aU [v11, v12]) U) (aa R)) (aa R)) (
 (aq .eql aG true a0 (.int .i64 3)).wp K U (fun bS U =>
 ao bS (
 (aA (some (9, 1)) (some [.str []]) 2 false [(0, (.str lJ)), (1, (.str sv))]).wp K U (fun bw U =>
 (aA (some (5, 1)) (some [.int .u8 0]) 2 false [(0, (.int .u8 20)), (1, (.int .u8 21))]).wp K U (fun ca U =>
 al R (.aU [bw, ca]) U) (aa R)) (aa R)) (
 (aq .eql aG true a0 (.int .i64 4)).wp K U (fun ck U =>
 ao ck (
 (aA (some (9, 1)) (some [.str []]) 2 false [(0, (.str sr)), (1, (.str su))]).wp K U (fun cn U =>
 (aA (some (5, 1)) (some [.int .u8 0]) 2 false [(0, (.int .u8 22)), (1, (.int .u8 23))]).wp K U (fun v20 U =>
 al R (.aU [cn, v20]) U) (aa R)) (aa R)) (
 (aq .eql aG true a0 (.int .i64 5)).wp K U (fun bY U =>
 ao bY (
 (aA (some (9, 1)) (some [.str []]) 1 false [(0, (.str so))]).wp K U (fun cR U =>
 (aA (some (5, 1)) (some [.int .u8 0]) 1 false [(0, (.int .u8 24))]).wp K U (fun v24 U =>
 al R (.aU [cR, v24]) U) (aa R)) (aa R)) (
 al R (.aU [.ak, .ak]) U)) (aa R))) (aa R))) (aa R))) (aa R))) (aa R)
def PX : Prop :=
 (aA (some (9, 1)) (some [.str []]) 1 false [(0, (.str Dc))]).wp K U (fun v7 U =>
 ad K 105 [a0, v7] U (ai (fun v8 U =>
 ao v8 (
 ad K 99 [a0, (.int .u8 35)] U (ai (fun v10 U =>
 ad K 102 [a0, (.str Dc)] U (ai (fun v12 U =>
 ad K 102 [a0, (.str fR)] U (ai (fun bS U =>
 ad K 106 [a0, v10, (.func (.func 278) [a0] [])] U (ai (fun cn U =>
 ad K 102 [a0, (.str eF)] U (ai (fun v21 U =>
 ad K 169 [a0] U (ai (fun v24 U =>
 (aA (some (87, 1)) (some [.bj]) 1 false [(0, v24)]).wp K U (fun dz U =>
 ad K 103 [v10, dz] U (ai (fun df U =>
 al R df U) (aa R))) (aa R)) (aa R))) (aa R))) (aa R))) (aa R))) (aa R))) (aa R))) (
 (aA (some (9, 1)) (some [.str []]) 1 false [(0, (.str wM))]).wp K U (fun cO U =>
 ad K 105 [a0, cO] U (ai (fun v30 U =>
 ao v30 (
 ad K 99 [a0, (.int .u8 36)] U (ai (fun ep U =>
 ad K 102 [a0, (.str wM)] U (ai (fun eK U =>
 ad K 102 [a0, (.str Cf)] U (ai (fun dH U =>
 ad K 169 [a0] U (ai (fun gn U =>
 (aA (some (87, 1)) (some [.bj]) 1 false [(0, gn)]).wp K U (fun v40 U =>
 ad K 103 [ep, v40] U (ai (fun gT U =>
 ad K 102 [a0, (.str gE)] U (ai (fun eJ U =>
 ad K 102 [a0, (.str Ch)] U (ai (fun ig U =>
 ad K 278 [a0] U (ai (fun gp U =>
 (aA (some (87, 1)) (some [.bj]) 1 false [(0, gp)]).wp K U (fun v49 U =>
 ad K 103 [ep, v49] U (ai (fun fx U =>
 ad K 102 [a0, (.str zm)] U (ai (fun iD U =>
 ad K 169 [a0] U (ai (fun gD U =>
 (aA (some (87, 1)) (some [.bj]) 1 false [(0, gD)]).wp K U (fun lE U =>
 ad K 103 [ep, lE] U (ai (fun jx U =>
 ad K 102 [a0, (.str zn)] U (ai (fun v59 U =>
 al R ep U) (aa R))) (aa R))) (aa R)) (aa R))) (aa R))) (aa R))) (aa R)) (aa R))) (aa R))) (aa R))) (aa R))) (aa R)) (aa R))) (aa R))) (aa R))) (aa R))) (
 ad K 109 [a0] U (ai (fun oZ U =>
 al R oZ U) (aa R)))) (aa R))) (aa R))) (aa R))) (aa R)
def PZ : Prop :=
 ad K 113 [a0] U (ai (fun v9 U =>
 (bE (some [(0, 1), (1, 1), (2, 1), (3, 1), (4, 1), (5, 1)]) (some [.int .u8 0, .str [], .int .i64 0, .int .i64 0, .int .i64 0, .int .i64 0]) none [(4, v9)]).wp K U (fun v10 U =>
 (aw.cJ [.int .u8 0, .str [], .int .i64 0, .int .i64 0, .int .i64 0, .int .i64 0]).wp K U (fun v3 U =>
 (aD (some (true, 6)) v3 v10 U).wp K U (fun _ U =>
 ad K 114 [a0, (.str Dc)] U (ai (fun bN U =>
 ao bN (
 (ag (some 0) v3).wp K U (fun bS U =>
 (aD aQ bS (.int .u8 35) U).wp K U (fun _ U =>
 ad K 116 [a0, (.str fR)] U (ai (fun ca U =>
 ad K 279 [a0] U (ai (fun ck U =>
 cD 3 [a0, v3, ck] U fun lp v0 fI v4 U =>
 ad K 114 [v0, (.str nB)] U (ai (fun v20 U =>
 ao v20 (
 ad K 279 [v0] U (ai (fun cR U =>
 (dc (some (43, 6)) false v4 cR U).wp K U (fun v24 U =>
 lp v0 fI v24 U) (aa R)) (aa R))) (
 ad K 116 [v0, (.str eF)] U (ai (fun df U =>
 (fun ay : St =>
 ar K (av (some (true, 6)) fI ay) (fun di =>
 ad K 176 [v0] U (ai (fun v30 U => cv ((cr fI ++ []) ++ []) ay U /\
 ar K (aA (some (23, 1)) (some [.ak]) 2 false [(0, v4), (1, v30)]) (fun v31 =>
 ad K 60 [di, v31] U (ai (fun ep U => cv ((cr fI ++ []) ++ []) ay U /\
 al R ep U) (aa R)))) (aa R)))) U) (aa R)))) (aa R))) (aa R))) (aa R))) (aa R)) (aa R)) (
 ad K 114 [a0, (.str wM)] U (ai (fun ef U =>
 ao ef (
 (ag (some 0) v3).wp K U (fun dH U =>
 (aD aQ dH (.int .u8 36) U).wp K U (fun _ U =>
 ad K 116 [a0, (.str Cf)] U (ai (fun eL U =>
 ad K 176 [a0] U (ai (fun v40 U =>
 ad K 116 [a0, (.str gE)] U (ai (fun kD U =>
 ad K 116 [a0, (.str Ch)] U (ai (fun jv U =>
 ad K 279 [a0] U (ai (fun v46 U =>
 ad K 116 [a0, (.str zm)] U (ai (fun gp U =>
 ad K 176 [a0] U (ai (fun fx U =>
 ad K 116 [a0, (.str zn)] U (ai (fun iD U =>
 (av (some (true, 6)) v3 U).wp K U (fun v53 U =>
 (aA (some (23, 1)) (some [.ak]) 3 false [(0, v40), (1, v46), (2, fx)]).wp K U (fun jx U =>
 ad K 60 [v53, jx] U (ai (fun kX U =>
 al R kX U) (aa R))) (aa R)) (aa R)) (aa R))) (aa R))) (aa R))) (aa R))) (aa R))) (aa R))) (aa R))) (aa R))) (aa R)) (aa R)) (
 ad K 120 [a0] U (ai (fun jY U =>
 al R jY U) (aa R)))) (aa R)))) (aa R))) (aa R)) (aa R)) (aa R)) (aa R))
def P1 : Prop :=
 ad K 99 [a0, (.int .u8 37)] U (ai (fun v5 U =>
 ad K 101 [a0] U (ai (fun v8 U =>
 (aI v5).wp K U (fun v9 U =>
 (ag (some 0) v9).wp K U (fun v10 U =>
 (ag (some 1) v10).wp K U (fun v11 U =>
 (aD aQ v11 v8 U).wp K U (fun _ U =>
 al R v5 U) (aa R)) (aa R)) (aa R)) (aa R)) (aa R))) (aa R))
def P3 : Prop :=
 ad K 113 [a0] U (ai (fun v5 U =>
 ad K 115 [a0] U (ai (fun v7 U =>
 (bE (some [(0, 1), (1, 1), (2, 1), (3, 1), (4, 1), (5, 1)]) (some [.int .u8 0, .str [], .int .i64 0, .int .i64 0, .int .i64 0, .int .i64 0]) none [(0, (.int .u8 37)), (1, v7), (4, v5)]).wp K U (fun v9 U =>
 ad K 60 [v9, .ak] U (ai (fun v10 U =>
 al R v10 U) (aa R))) (aa R)) (aa R))) (aa R))
end
section
variable {a0 a1 a2 a3 a4 a5 a6 : AV} {R : cS -> St -> Prop} {U : St}
theorem Ou (h : Ot a0 a1 a2 a3 R U) : ad K 155 [a0, a1, a2, a3] U R := bA Tryz.f155 Wp h
theorem Ow (h : Ov a0 R U) : ad K 158 [a0] U R := bA Tryz.f158 Wq h
theorem Oy (h : Ox a0 R U) : ad K 159 [a0] U R := bA Tryz.f159 Wr h
theorem OA (h : Oz a0 R U) : ad K 160 [a0] U R := bA Tryz.f160 Ws h
theorem OC (h : OB a0 R U) : ad K 161 [a0] U R := bA Tryz.f161 Wt h
theorem OE (h : OD a0 R U) : ad K 162 [a0] U R := bA Tryz.f162 Wu h
theorem OG (h : OF a0 R U) : ad K 163 [a0] U R := bA Tryz.f163 Wv h
theorem OI (h : OH a0 R U) : ad K 164 [a0] U R := bA Tryz.f164 Ww h
theorem OJ (h : Zh a0 a1 R U) : ad K 165 [a0, a1] U R := bA Tryz.f165 Wx h
theorem OK (h : Zi a0 R U) : ad K 166 [a0] U R := bA Tryz.f166 Wy h
theorem OM (h : OL a0 a1 R U) : ad K 167 [a0, a1] U R := bA Tryz.f167 Wz h
theorem ON (h : Zj a0 R U) : ad K 168 [a0] U R := bA Tryz.f168 WA h
theorem OP (h : OO a0 R U) : ad K 169 [a0] U R := bA Tryz.f169 WB h
theorem OR (h : OQ a0 R U) : ad K 170 [a0] U R := bA Tryz.f170 WC h
theorem OT (h : OS a0 a1 R U) : ad K 171 [a0, a1] U R := bA Tryz.f171 WD h
theorem OV (h : OU a0 a1 R U) : ad K 172 [a0, a1] U R := bA Tryz.f172 WE h
theorem OX (h : OW a0 a1 R U) : ad K 173 [a0, a1] U R := bA Tryz.f173 WG h
theorem OZ (h : OY a0 a1 R U) : ad K 174 [a0, a1] U R := bA Tryz.f174 WH h
theorem O3 (h : O0 a0 R U) : ad K 175 [a0] U R := bA Tryz.f175 WI h
theorem O6 (h : O5 a0 R U) : ad K 176 [a0] U R := bA Tryz.f176 WJ h
theorem O8 (h : O7 a0 R U) : ad K 177 [a0] U R := bA Tryz.f177 WK h
theorem O9 (h : Zk a0 a1 R U) : ad K 178 [a0, a1] U R := bA Tryz.f178 WL h
theorem Pb (h : Pa a0 R U) : ad K 191 [a0] U R := bA Tryz.f191 WM h
theorem Eb (h : GH a0 a1 R U) : ad K 210 [a0, a1] U R := bA Tryz.f210 WN h
theorem Pd (h : Pc a0 R U) : ad K 211 [a0] U R := bA Tryz.f211 WO h
theorem Ec (h : Zl a0 a1 R U) : ad K 212 [a0, a1] U R := bA Tryz.f212 WQ h
theorem Pe (h : Zm a0 a1 R U) : ad K 215 [a0, a1] U R := bA Tryz.f215 WR h
theorem Pg (h : Pf a0 R U) : ad K 216 [a0] U R := bA Tryz.f216 WS h
theorem Pj (h : Ph a0 a1 R U) : ad K 219 [a0, a1] U R := bA Tryz.f219 WT h
theorem Pm (h : Pk a0 a1 R U) : ad K 220 [a0, a1] U R := bA Tryz.f220 WU h
theorem Po (h : Pn a0 R U) : ad K 221 [a0] U R := bA Tryz.f221 WV h
theorem Pq (h : Pp a0 a1 R U) : ad K 222 [a0, a1] U R := bA Tryz.f222 WW h
theorem Ps (h : Pr R U) : ad K 223 [] U R := bA Tryz.f223 WX h
theorem Pu (h : Pt a0 R U) : ad K 224 [a0] U R := bA Tryz.f224 WY h
theorem Pw (h : Pv a0 R U) : ad K 225 [a0] U R := bA Tryz.f225 WZ h
theorem Py (h : Px R U) : ad K 226 [] U R := bA Tryz.f226 W0 h
theorem PA (h : Pz a0 a1 a2 R U) : ad K 227 [a0, a1, a2] U R := bA Tryz.f227 W1 h
theorem PC (h : PB a0 a1 a2 R U) : ad K 228 [a0, a1, a2] U R := bA Tryz.f228 W2 h
theorem PE (h : PD a0 a1 R U) : ad K 229 [a0, a1] U R := bA Tryz.f229 W3 h
theorem PG (h : PF a0 a1 R U) : ad K 230 [a0, a1] U R := bA Tryz.f230 W4 h
theorem PI (h : PH a0 a1 R U) : ad K 236 [a0, a1] U R := bA Tryz.f236 W5 h
theorem PK (h : PJ a0 a1 R U) : ad K 246 [a0, a1] U R := bA Tryz.f246 W6 h
theorem PM (h : PL a0 R U) : ad K 252 [a0] U R := bA Tryz.f252 W7 h
theorem PO (h : PN a0 R U) : ad K 253 [a0] U R := bA Tryz.f253 W8 h
theorem PS (h : PQ a0 R U) : ad K 254 [a0] U R := bA Tryz.f254 W9 h
theorem PU (h : PT a0 R U) : ad K 255 [a0] U R := bA Tryz.f255 Xa h
theorem PW (h : PV a0 R U) : ad K 256 [a0] U R := bA Tryz.f256 Xb h
theorem PY (h : PX a0 R U) : ad K 269 [a0] U R := bA Tryz.f269 Xc h
theorem P0 (h : PZ a0 R U) : ad K 270 [a0] U R := bA Tryz.f270 Xd h
theorem P2 (h : P1 a0 R U) : ad K 278 [a0] U R := bA Tryz.f278 Xe h
theorem P4 (h : P3 a0 R U) : ad K 279 [a0] U R := bA Tryz.f279 Xf h
end
end Go.Rip
