import Derived.Shelf.Strings.BuilderX
import Derived.Shelf.RegionOpenPlain
import Derived.Lib.Strings
import Derived.Lib.Builder
import Derived.Lib.UnsafeStr
import Derived.WalkKit
import Derived.Laws.Externs
import Derived.Test.YtnfpmiiopiinbaaGreatDoorD
import Derived.RegionTactic
import Derived.ChangeAlike
import Derived.Shelf.Strings.Builder1
import Derived.Shelf.Small.Strs
import Derived.Shelf.Strings.BuilderF
import Derived.Shelf.Strings.BuilderK
import Derived.Shelf.Strconv.Atoi
import Derived.Shelf.Strconv.Itoa0
import Derived.Shelf.Strconv.Itoa1
import Derived.Shelf.LaysM
import Derived.Shelf.Strconv.Itoa2
import Derived.Shelf.Strconv.Itoa3
import Derived.Shelf.Strconv.AtoiErrFast
import Derived.Shelf.Strconv.ParseIntEmpty
import Derived.Shelf.Strconv.AtoiFail
import Derived.Shelf.Strconv.Clone
import Derived.Shelf.Strconv.SyntaxError
import Derived.Shelf.LaysC
import Derived.Shelf.Strconv.ToError
import Derived.Shelf.Strconv.AtoiErr
import Derived.Shelf.Strconv.ErrVar
import Derived.Shelf.Strconv.Lower
import Derived.Shelf.Strconv.ParseUint10
import Derived.Shelf.Strconv.ParseUint10Empty
import Derived.Shelf.Strconv.ParseUint10Any
import Derived.Shelf.Strconv.ParseInt10
import Derived.Shelf.Strconv.AtoiLong
import Derived.Shelf.Strconv.AtoiInnerAll
import Derived.Shelf.Strconv.RangeError
import Derived.Shelf.Strconv.ToErrorRange
import Derived.Shelf.Strconv.AtoiAll
import Derived.Shelf.Strconv.ErrVarAll
import Derived.Shelf.Strings.Search1
import Derived.Shelf.Strings.Search2
import Derived.Shelf.Strings.Cut
import Derived.Shelf.Strings.Shaped
import Derived.Shelf.Strings.Prefix
import Derived.Shelf.Unicode.Latin
import Derived.Shelf.Unicode.DecodeSlow
import Derived.Shelf.Unicode.DecodeAny
import Derived.Shelf.Unicode.Is16White
import Derived.Shelf.Unicode.IsSpaceAny
import Derived.Shelf.Unicode.Is16Any
import Derived.Shelf.Unicode.Is32Any
import Derived.Shelf.Unicode.ExclAny
import Derived.Shelf.Strings.BuilderCap
import Derived.Shelf.Slices.Turned
import Derived.Lib.Bytealg
set_option linter.all false
namespace Go.Rip
open Go.Proofs Go.RowKit
def szB:(Tryz.prog.info? 158).map (·.size)=some 2:=by kernel_rfl
def aiB:liesAt Tryz.prog Tryz.prog.depth 158 (2 / Tryz.prog.cellsOf 158) 0 158 1:=by kernel_rfl
def UT:Tryz.prog.follows .mixedOrders:=by kernel_rfl
set_option maxHeartbeats 1000000 in
set_option maxRecDepth 100000 in
def aet(b:Nat)(w:World)(h0:w.cell? ⟨b,0,none⟩=some (.pointer (some ⟨b,0,none⟩))) :
    Calls Tryz.prog 190 #[.pointer (some ⟨b,0,none⟩)] w λe w'=>e=.returned (.tuple #[])/\w'=w:=by
  obtain⟨j,hj,_⟩:=so.1 szB;have mixed:=UT
  go_enter Tryz.func190,Tryz.ntmps190
  go_wp2
  rw[Lib.run_neq_ptr_same w _ Tryz.underlying156 hj]
  go_wp2
  go_end0
  exact⟨rfl,rfl⟩
set_option maxHeartbeats 1000000 in
set_option maxRecDepth 100000 in
def aan(b:Nat)(w:World)(h0:w.cell? ⟨b,0,none⟩=some (.pointer none))(AA:w.shape? b=some (158,2))(hfz:w.frozen? ⟨b,0,none⟩=false) :
    Calls Tryz.prog 190 #[.pointer (some ⟨b,0,none⟩)] w λe w'=>e=.returned (.tuple #[])/\w'=w.setCell ⟨b,0,none⟩ (.pointer (some ⟨b,0,none⟩)):=by
  obtain⟨j,hj,hjs⟩:=so.1 szB;have mixed:=UT
  go_enter Tryz.func190,Tryz.ntmps190
  go_wp2
  rw[Lib.run_to_unsafe w ⟨b,0,none⟩ Tryz.underlying156 Tryz.underlying229 hj (by rw[hjs];decide) AA (Nat.zero_lt_succ 1)];simp only[Result.andThen];rw[Oper.upon_value]
  go_wp2
  rw[run_callFunc_extern Tryz.func238 (by kernel_rfl) (by kernel_rfl) (by kernel_rfl) (e:=Extern.AbiNoEscape.same) (by kernel_rfl)];rw[Lib.run_noEscape];simp only[Result.andThen];rw[Oper.upon_value]
  go_wp2
  rw[Lib.run_from_unsafe w ⟨b,0,none⟩ Tryz.underlying229 Tryz.underlying156 hj AA aiB];simp only[Result.andThen];rw[Oper.upon_value]
  go_wp2
  go_end0
  exact⟨rfl,rfl⟩
def uQ{b:Nat}{rest:List AV}{U:St}{R:bi}(hb:U.box b=some (.box b 0::rest))(hR:R (.ret (.az [])) U):ag K 190 [.box b 0] U R:=by
 intro g w vs hs hG ha;simp only[aJ,aB]at ha;obtain⟨u,us,rfl,⟨x,hx,rfl⟩,rfl⟩:=ha;obtain⟨x',cur,vs,Lb,k1,k2,k3,k4,k5,k6,k7,k8⟩:=hs.box b _ hb;rw[hx]at k1;cases k1;simp only[aJ,aB]at k6;obtain⟨u,us,rfl,⟨x',lJ,rfl⟩,_⟩:=k6;have lJ:g.box b=some x':=lJ;rw[hx]at lJ;cases lJ;have hc:w.cell? ⟨x.aR,0,none⟩=some (.pointer (some ⟨x.aR,0,none⟩)):=by
  rw[cell_of_row _ _ _ cur x.e (0,0) k3,<-nO,k5];rfl
 refine callsIn_wide.2 ((aet x.aR w hc).mono λe w' ⟨h1,h2⟩=>?_);subst h1 h2;exact⟨g,U,.az [],Gh.Le.refl g,hs,by simp only[aB];exact⟨[],rfl,by simp[aJ]⟩,hR⟩
def yM{b:Nat}{y:AV}{U:St}{R:bi}(hb:U.live b=some (.wV 158 [.bE,y]))(hR:R (.ret (.az [])) (U.c7 b [.box b 0,y])):ag K 190 [.box b 0] U R:=by
 intro g w vs hs hG ha;simp only[aJ,aB]at ha;obtain⟨u,us,rfl,⟨x,hx,rfl⟩,rfl⟩:=ha;obtain⟨p,k1,k2,e1,e2,cur,vs,Lb,k3,k4,k5,k6,k7,k8⟩:=hs.live b _ hb;have lJ:g.place b=some x:=hx;rw[k1]at lJ;cases lJ;have mC:U.box b=some [.bE,y]:=by simp[St.box,hb]
 simp only[aJ,aB]at k6;obtain⟨u,us,rfl,rfl,v,us',rfl,hv,rfl⟩:=k6;have hc:w.cell? ⟨x.aR,0,none⟩=some (.pointer none):=by
  rw[cell_of_row _ _ _ cur x.e (0,0) k3,<-nO,k5];rfl
 have hf:w.frozen? ⟨x.aR,0,none⟩=false:=by
  simp[World.frozen?,k3]
 have AA:w.shape? x.aR=some (158,2):=by
  simp only[World.shape?,k3,e1];have:cur.size=2:=by rw[k4,e2];rfl
  rw[this]
 refine callsIn_wide.2 ((aan x.aR w hc AA hf).mono λe w' ⟨h1,h2⟩=>?_);subst h1 h2;rw[setCell_eq_setRow w x.aR 0 cur x.e (0,0) _ k3];have Bt:=hs.setRow (l':=[.box b 0,y]) mC hx (cur.setIfInBounds 0 (.pointer (some ⟨x.aR,0,none⟩))) [.pointer (some ⟨x.aR,0,none⟩),v] Lb (by simp[k4]) (by
  rw[Array.toList_setIfInBounds,k5];rfl) (by simp only[aJ,aB];exact⟨_,_,rfl,⟨x,hx,rfl⟩,_,_,rfl,hv,rfl⟩) (λu hu=>by
  rw[Array.toList_setIfInBounds]at hu;rcases List.mem_or_eq_of_mem_set hu with h|h
  . exact k7 u h
  . subst h;rfl)
 exact⟨g,_,.az [],Gh.Le.refl g,Bt,by simp only[aB];exact⟨[],rfl,by simp[aJ]⟩,hR⟩
def cellsByte:Tryz.prog.cellsOf 5=1:=by kernel_rfl
set_option maxHeartbeats 2000000 in
set_option maxRecDepth 100000 in
def acJ(b g cap cells:Nat)(l:List UInt8)(w:World)(h0:l≠[])(c0:w.cell? ⟨b,1,none⟩=some (.slice (some ⟨g,0,none⟩) l.length cap))(C8:l.length<=cap)(AA:w.shape? g=some (5,cells))(hn:l.length<=cells)(hm:l.length<=9223372036854775807)
    (sP:∀j x,l[j]?=some x->w.cell? ⟨g,j,none⟩=some (.int .u8 x.toNat)) :
    Calls Tryz.prog 127 #[.pointer (some ⟨b,0,none⟩)] w λe w'=>e=.returned (.string ⟨l.toArray⟩)/\w'=w.drew.freeze ⟨g,0,none⟩ l.length:=by
  have tY:l.length≠0:=by simpa using h0
  have c1:w.drew.cell? ⟨b,1,none⟩=some (.slice (some ⟨g,0,none⟩) l.length cap):=c0;have hSD:(Builtin.unsafeSliceData_ #[106] 196 #[.slice (some ⟨g,0,none⟩) l.length cap]).run Tryz.prog w.drew=.ok (.pointer (some ⟨g,0,none⟩)) w.drew :=
    Lib.run_unsafeSliceData_row _ _ _ _ _ _ d6
  have nG:∀j,(⟨g,0,none⟩:Addr).add j=⟨g,j,none⟩:=λj=>by unfold Addr.add;split<;>simp_all
  have hUS:(Builtin.unsafeString_ #[196,3] 9 #[.pointer (some ⟨g,0,none⟩),.int .i64 l.length]).run Tryz.prog w.drew=.ok (.string ⟨l.toArray⟩) (w.drew.freeze ⟨g,0,none⟩ l.length):=by
    refine Lib.run_unsafeString_row w.drew 196 3 9 5 Tryz.underlying196 cellsByte g cells AA l h0 hn hm ?_;intro j x hx;rw[nG];exact sP j x hx
  have mixed:Tryz.prog.follows .mixedOrders:=by kernel_rfl
  clear c0 sP nG AA
  go_enter Tryz.func127,Tryz.ntmps127
  go_wp2
  go_region
  all_goals (go_wp2;go_ret;exact⟨rfl,rfl⟩)
set_option maxHeartbeats 2000000 in
set_option maxRecDepth 100000 in
def afD(b:Nat)(w:World)(c0:w.cell? ⟨b,1,none⟩=some (.slice none 0 0)) :
    Calls Tryz.prog 127 #[.pointer (some ⟨b,0,none⟩)] w λe w'=>e=.returned (.string ⟨#[]⟩)/\w'=w.drew:=by
  have c1:w.drew.cell? ⟨b,1,none⟩=some (.slice none 0 0):=c0;have hSD:(Builtin.unsafeSliceData_ #[106] 196 #[.slice none 0 0]).run Tryz.prog w.drew=.ok (.pointer none) w.drew:=rfl;have hUS:=λq:Option Addr=>Lib.run_unsafeString_none (P:=Tryz.prog) (w:=w.drew) 196 3 9 q;have mixed:Tryz.prog.follows .mixedOrders:=by kernel_rfl
  clear c0
  go_enter Tryz.func127,Tryz.ntmps127
  go_wp2
  go_region
  all_goals (go_wp2;go_ret;exact⟨rfl,rfl⟩)
end Go.Rip
namespace Go.Proofs
open Go.Shelf
def Tryz.OI:Go.Shelf.Ren:=⟨fun|137=>214|217=>245|266=>261|n=>n,fun|9=>9|5=>5|3=>3|n=>n,fun|n=>n⟩
def Tryz.aeQ:Go.Proofs.Lays.n137 Tryz.prog Tryz.OI:={
 mixed:=by kernel_rfl
 f137:=Tryz.func214.trans (congrArg some (by kernel_rfl))
 f217:=Tryz.func245.trans (congrArg some (by kernel_rfl))
 f266:=Tryz.func261.trans (congrArg some (by kernel_rfl))
 t3:=Tryz.underlying3
 a3:=Tryz.isAgg3
 z3:=Tryz.sizeOf3
 v3:=Tryz.zeroValue3
 t5:=Tryz.underlying5
 a5:=Tryz.isAgg5
 z5:=Tryz.sizeOf5
 v5:=Tryz.zeroValue5
 t9:=Tryz.underlying9
 a9:=Tryz.isAgg9
 z9:=Tryz.sizeOf9
 v9:=Tryz.zeroValue9 }
open Go.RowKit in
def Tryz.strings_IndexByte(s:ByteArray)(c:Int)(w:World) :
    Calls Tryz.prog 214 #[.string s,.int .u8 c] w λe w'=>e=.returned (.int .i64 (Lib.indexByte s.data.toList c.toNat.toUInt8))/\w'=w:=Any.strings_IndexByte Tryz.aeQ s c w
def Tryz.OJ:Go.Shelf.Ren:=⟨fun|172=>218|244=>250|245=>251|247=>264|279=>265|280=>266|281=>267|282=>268|287=>275|316=>276|171=>257|205=>277|321=>281|322=>282|243=>271|246=>280|283=>283|284=>284|285=>285|286=>286|129=>288|317=>287|318=>289|319=>290|320=>291|337=>292|338=>293|n=>n,fun|9=>9|3=>3|75=>160|76=>161|4=>4|5=>5|167=>247|37=>106|0=>0|85=>248|2=>2|168=>250|53=>268|175=>269|46=>243|210=>273|127=>196|145=>281|143=>279|21=>21|171=>282|173=>285|212=>288|51=>244|20=>20|213=>289|232=>292|233=>293|80=>138|n=>n,fun|15=>5|16=>6|17=>7|18=>8|19=>9|n=>n⟩
def Tryz.aeR:Go.Proofs.Lays.n172 Tryz.prog Tryz.OJ:={
 mixed:=by kernel_rfl
 f129:=Tryz.func288.trans (congrArg some (by kernel_rfl))
 f171:=Tryz.func257.trans (congrArg some (by kernel_rfl))
 f172:=Tryz.func218.trans (congrArg some (by kernel_rfl))
 f205:=Tryz.func277.trans (congrArg some (by kernel_rfl))
 f243:=Tryz.func271.trans (congrArg some (by kernel_rfl))
 f244:=Tryz.func250.trans (congrArg some (by kernel_rfl))
 f245:=Tryz.func251.trans (congrArg some (by kernel_rfl))
 f246:=Tryz.func280.trans (congrArg some (by kernel_rfl))
 f247:=Tryz.func264.trans (congrArg some (by kernel_rfl))
 f279:=Tryz.func265.trans (congrArg some (by kernel_rfl))
 f280:=Tryz.func266.trans (congrArg some (by kernel_rfl))
 f281:=Tryz.func267.trans (congrArg some (by kernel_rfl))
 f282:=Tryz.func268.trans (congrArg some (by kernel_rfl))
 f283:=Tryz.func283.trans (congrArg some (by kernel_rfl))
 f284:=Tryz.func284.trans (congrArg some (by kernel_rfl))
 f285:=Tryz.func285.trans (congrArg some (by kernel_rfl))
 f286:=Tryz.func286.trans (congrArg some (by kernel_rfl))
 f287:=Tryz.func275.trans (congrArg some (by kernel_rfl))
 f316:=Tryz.func276.trans (congrArg some (by kernel_rfl))
 f317:=Tryz.func287.trans (congrArg some (by kernel_rfl))
 f318:=Tryz.func289.trans (congrArg some (by kernel_rfl))
 f319:=Tryz.func290.trans (congrArg some (by kernel_rfl))
 f320:=Tryz.func291.trans (congrArg some (by kernel_rfl))
 f321:=Tryz.func281.trans (congrArg some (by kernel_rfl))
 f322:=Tryz.func282.trans (congrArg some (by kernel_rfl))
 f337:=Tryz.func292.trans (congrArg some (by kernel_rfl))
 f338:=Tryz.func293.trans (congrArg some (by kernel_rfl))
 t0:=Tryz.underlying0
 a0:=Tryz.isAgg0
 z0:=Tryz.sizeOf0
 v0:=Tryz.zeroValue0
 t2:=Tryz.underlying2
 a2:=Tryz.isAgg2
 z2:=Tryz.sizeOf2
 v2:=Tryz.zeroValue2
 t3:=Tryz.underlying3
 a3:=Tryz.isAgg3
 z3:=Tryz.sizeOf3
 v3:=Tryz.zeroValue3
 t4:=Tryz.underlying4
 a4:=Tryz.isAgg4
 z4:=Tryz.sizeOf4
 v4:=Tryz.zeroValue4
 t5:=Tryz.underlying5
 a5:=Tryz.isAgg5
 z5:=Tryz.sizeOf5
 v5:=Tryz.zeroValue5
 t9:=Tryz.underlying9
 a9:=Tryz.isAgg9
 z9:=Tryz.sizeOf9
 v9:=Tryz.zeroValue9
 t20:=Tryz.underlying20
 a20:=Tryz.isAgg20
 z20:=Tryz.sizeOf20
 v20:=Tryz.zeroValue20
 t21:=Tryz.underlying21
 a21:=Tryz.isAgg21
 z21:=Tryz.sizeOf21
 v21:=Tryz.zeroValue21
 t37:=Tryz.underlying106
 a37:=Tryz.isAgg106
 z37:=Tryz.sizeOf106
 v37:=Tryz.zeroValue106
 t46:=Tryz.underlying243
 a46:=Tryz.isAgg243
 z46:=Tryz.sizeOf243
 v46:=Tryz.zeroValue243
 t51:=Tryz.underlying244
 a51:=Tryz.isAgg244
 z51:=Tryz.sizeOf244
 v51:=Tryz.zeroValue244
 t53:=Tryz.underlying268
 a53:=Tryz.isAgg268
 z53:=Tryz.sizeOf268
 v53:=Tryz.zeroValue268
 t75:=Tryz.underlying160
 a75:=Tryz.isAgg160
 z75:=Tryz.sizeOf160
 v75:=Tryz.zeroValue160
 t76:=Tryz.underlying161
 a76:=Tryz.isAgg161
 z76:=Tryz.sizeOf161
 v76:=Tryz.zeroValue161
 t85:=Tryz.underlying248
 a85:=Tryz.isAgg248
 z85:=Tryz.sizeOf248
 v85:=Tryz.zeroValue248
 t127:=Tryz.underlying196
 a127:=Tryz.isAgg196
 z127:=Tryz.sizeOf196
 v127:=Tryz.zeroValue196
 t143:=Tryz.underlying279
 a143:=Tryz.isAgg279
 z143:=Tryz.sizeOf279
 v143:=Tryz.zeroValue279
 t145:=Tryz.underlying281
 a145:=Tryz.isAgg281
 z145:=Tryz.sizeOf281
 v145:=Tryz.zeroValue281
 t167:=Tryz.underlying247
 a167:=Tryz.isAgg247
 z167:=Tryz.sizeOf247
 v167:=Tryz.zeroValue247
 t168:=Tryz.underlying250
 a168:=Tryz.isAgg250
 z168:=Tryz.sizeOf250
 v168:=Tryz.zeroValue250
 t171:=Tryz.underlying282
 a171:=Tryz.isAgg282
 z171:=Tryz.sizeOf282
 v171:=Tryz.zeroValue282
 t173:=Tryz.underlying285
 a173:=Tryz.isAgg285
 z173:=Tryz.sizeOf285
 v173:=Tryz.zeroValue285
 t175:=Tryz.underlying269
 a175:=Tryz.isAgg269
 z175:=Tryz.sizeOf269
 v175:=Tryz.zeroValue269
 t210:=Tryz.underlying273
 a210:=Tryz.isAgg273
 z210:=Tryz.sizeOf273
 v210:=Tryz.zeroValue273
 t212:=Tryz.underlying288
 a212:=Tryz.isAgg288
 z212:=Tryz.sizeOf288
 v212:=Tryz.zeroValue288
 t213:=Tryz.underlying289
 a213:=Tryz.isAgg289
 z213:=Tryz.sizeOf289
 t232:=Tryz.underlying292
 a232:=Tryz.isAgg292
 z232:=Tryz.sizeOf292
 v232:=Tryz.zeroValue292
 t233:=Tryz.underlying293
 a233:=Tryz.isAgg293
 z233:=Tryz.sizeOf293
 v233:=Tryz.zeroValue293
 g15:=by kernel_rfl
 g16:=by kernel_rfl
 g17:=by kernel_rfl
 g18:=by kernel_rfl
 g19:=by kernel_rfl }
open Go.RowKit in
def Tryz.strconv_Atoi(s:ByteArray)(n:Int)(hl:s.size<=18)(h:Lib.atoi s.data.toList=some n)(w:World) :
    Calls Tryz.prog 218 #[.string s] w λe w'=>e=.returned (.tuple #[.int .i64 n,.nilIface])/\∃t,w'=Lib.bytesWorld w 5 t:=Any.strconv_Atoi Tryz.aeR s n hl h w
def Tryz.MP:Go.Shelf.Ren:=⟨fun|171=>257|243=>271|246=>280|283=>283|284=>284|285=>285|286=>286|129=>288|317=>287|318=>289|319=>290|320=>291|337=>292|338=>293|n=>n,fun|3=>3|9=>9|2=>2|4=>4|171=>282|0=>0|53=>268|37=>106|5=>5|173=>285|212=>288|51=>244|20=>20|213=>289|46=>243|232=>292|233=>293|n=>n,fun|17=>7|18=>8|19=>9|n=>n⟩
def Tryz.abj:Go.Proofs.LaysM.n171 Tryz.prog Tryz.MP:={
 mixed:=by kernel_rfl
 f129:=Tryz.func288.trans (congrArg some (by kernel_rfl))
 f171:=Tryz.func257.trans (congrArg some (by kernel_rfl))
 f243:=Tryz.func271.trans (congrArg some (by kernel_rfl))
 f246:=Tryz.func280.trans (congrArg some (by kernel_rfl))
 f283:=Tryz.func283.trans (congrArg some (by kernel_rfl))
 f284:=Tryz.func284.trans (congrArg some (by kernel_rfl))
 f285:=Tryz.func285.trans (congrArg some (by kernel_rfl))
 f286:=Tryz.func286.trans (congrArg some (by kernel_rfl))
 f317:=Tryz.func287.trans (congrArg some (by kernel_rfl))
 f318:=Tryz.func289.trans (congrArg some (by kernel_rfl))
 f319:=Tryz.func290.trans (congrArg some (by kernel_rfl))
 f320:=Tryz.func291.trans (congrArg some (by kernel_rfl))
 f337:=Tryz.func292.trans (congrArg some (by kernel_rfl))
 f338:=Tryz.func293.trans (congrArg some (by kernel_rfl))
 t0:=Tryz.underlying0
 a0:=Tryz.isAgg0
 z0:=Tryz.sizeOf0
 v0:=Tryz.zeroValue0
 t2:=Tryz.underlying2
 a2:=Tryz.isAgg2
 z2:=Tryz.sizeOf2
 v2:=Tryz.zeroValue2
 t3:=Tryz.underlying3
 a3:=Tryz.isAgg3
 z3:=Tryz.sizeOf3
 v3:=Tryz.zeroValue3
 t4:=Tryz.underlying4
 a4:=Tryz.isAgg4
 z4:=Tryz.sizeOf4
 v4:=Tryz.zeroValue4
 t5:=Tryz.underlying5
 a5:=Tryz.isAgg5
 z5:=Tryz.sizeOf5
 v5:=Tryz.zeroValue5
 t9:=Tryz.underlying9
 a9:=Tryz.isAgg9
 z9:=Tryz.sizeOf9
 v9:=Tryz.zeroValue9
 t20:=Tryz.underlying20
 a20:=Tryz.isAgg20
 z20:=Tryz.sizeOf20
 v20:=Tryz.zeroValue20
 t37:=Tryz.underlying106
 a37:=Tryz.isAgg106
 z37:=Tryz.sizeOf106
 v37:=Tryz.zeroValue106
 t46:=Tryz.underlying243
 a46:=Tryz.isAgg243
 z46:=Tryz.sizeOf243
 v46:=Tryz.zeroValue243
 t51:=Tryz.underlying244
 a51:=Tryz.isAgg244
 z51:=Tryz.sizeOf244
 v51:=Tryz.zeroValue244
 t53:=Tryz.underlying268
 a53:=Tryz.isAgg268
 z53:=Tryz.sizeOf268
 v53:=Tryz.zeroValue268
 t171:=Tryz.underlying282
 a171:=Tryz.isAgg282
 z171:=Tryz.sizeOf282
 v171:=Tryz.zeroValue282
 t173:=Tryz.underlying285
 a173:=Tryz.isAgg285
 z173:=Tryz.sizeOf285
 v173:=Tryz.zeroValue285
 t212:=Tryz.underlying288
 a212:=Tryz.isAgg288
 z212:=Tryz.sizeOf288
 v212:=Tryz.zeroValue288
 t213:=Tryz.underlying289
 a213:=Tryz.isAgg289
 z213:=Tryz.sizeOf289
 t232:=Tryz.underlying292
 a232:=Tryz.isAgg292
 z232:=Tryz.sizeOf292
 v232:=Tryz.zeroValue292
 t233:=Tryz.underlying293
 a233:=Tryz.isAgg293
 z233:=Tryz.sizeOf293
 v233:=Tryz.zeroValue293
 g17:=by kernel_rfl
 g18:=by kernel_rfl
 g19:=by kernel_rfl
 i0:=by kernel_rfl
 i2:=by kernel_rfl
 i3:=by kernel_rfl
 i4:=by kernel_rfl
 i5:=by kernel_rfl
 i9:=by kernel_rfl
 i20:=by kernel_rfl
 i37:=by kernel_rfl
 i46:=by kernel_rfl
 i51:=by kernel_rfl
 i53:=by kernel_rfl
 i171:=by kernel_rfl
 i173:=by kernel_rfl
 i212:=by kernel_rfl
 i232:=by kernel_rfl
 i233:=by kernel_rfl
 m17:=by kernel_rfl
 m18:=by kernel_rfl
 m19:=by kernel_rfl }
open Go.RowKit Go.Sort Go.Lib in
def Tryz.strconv_Itoa(n:Int)(h0:-9223372036854775808<=n)(h1:n<=9223372036854775807)(w:World)(ajY:Lib.TabIs Tryz.prog w "internal/strconv.uint64pow10" .u64 Lib.pow10Tab) :
    Calls Tryz.prog 257 #[.int .i64 n] w λe w'=>e=.returned (.string ⟨(Lib.itoa n).toArray⟩)/\∃k os,w'=grow (w.drewN k) os:=Any.strconv_Itoa Tryz.abj n h0 h1 w ajY
def Tryz.OK:Go.Shelf.Ren:=⟨fun|219=>243|217=>245|225=>258|224=>259|267=>260|266=>261|314=>272|n=>n,fun|9=>9|3=>3|4=>4|5=>5|46=>243|146=>253|51=>244|n=>n,fun|1=>1|n=>n⟩
def Tryz.aeS:Go.Proofs.Lays.n219 Tryz.prog Tryz.OK:={
 mixed:=by kernel_rfl
 f217:=Tryz.func245.trans (congrArg some (by kernel_rfl))
 f219:=Tryz.func243.trans (congrArg some (by kernel_rfl))
 f224:=Tryz.func259.trans (congrArg some (by kernel_rfl))
 f225:=Tryz.func258.trans (congrArg some (by kernel_rfl))
 f266:=Tryz.func261.trans (congrArg some (by kernel_rfl))
 f267:=Tryz.func260.trans (congrArg some (by kernel_rfl))
 f314:=Tryz.func272.trans (congrArg some (by kernel_rfl))
 t3:=Tryz.underlying3
 a3:=Tryz.isAgg3
 z3:=Tryz.sizeOf3
 v3:=Tryz.zeroValue3
 t4:=Tryz.underlying4
 a4:=Tryz.isAgg4
 z4:=Tryz.sizeOf4
 v4:=Tryz.zeroValue4
 t5:=Tryz.underlying5
 a5:=Tryz.isAgg5
 z5:=Tryz.sizeOf5
 v5:=Tryz.zeroValue5
 t9:=Tryz.underlying9
 a9:=Tryz.isAgg9
 z9:=Tryz.sizeOf9
 v9:=Tryz.zeroValue9
 t46:=Tryz.underlying243
 a46:=Tryz.isAgg243
 z46:=Tryz.sizeOf243
 v46:=Tryz.zeroValue243
 t51:=Tryz.underlying244
 a51:=Tryz.isAgg244
 z51:=Tryz.sizeOf244
 v51:=Tryz.zeroValue244
 t146:=Tryz.underlying253
 a146:=Tryz.isAgg253
 z146:=Tryz.sizeOf253
 v146:=Tryz.zeroValue253
 g1:=by kernel_rfl }
open Go.RowKit Go.Lib in
def Tryz.stringslite_Index_one(s:ByteArray)(c:UInt8)(w:World) :
    Calls Tryz.prog 243 #[.string s,.string ⟨#[c]⟩] w λe w'=>e=.returned (.int .i64 (Lib.indexByte s.data.toList c))/\w'=w:=Any.stringslite_Index_one Tryz.aeS s c w
def Tryz.RU:Go.Shelf.Ren:=⟨fun|99=>213|206=>244|n=>n,fun|9=>9|4=>4|3=>3|n=>n,fun|n=>n⟩
def Tryz.agU:Go.Proofs.Lays.n99 Tryz.prog Tryz.RU:={
 mixed:=by kernel_rfl
 f99:=Tryz.func213.trans (congrArg some (by kernel_rfl))
 f206:=Tryz.func244.trans (congrArg some (by kernel_rfl))
 t3:=Tryz.underlying3
 a3:=Tryz.isAgg3
 z3:=Tryz.sizeOf3
 v3:=Tryz.zeroValue3
 t4:=Tryz.underlying4
 a4:=Tryz.isAgg4
 z4:=Tryz.sizeOf4
 v4:=Tryz.zeroValue4
 t9:=Tryz.underlying9
 a9:=Tryz.isAgg9
 z9:=Tryz.sizeOf9
 v9:=Tryz.zeroValue9 }
open Go.RowKit Go.Lib in
def Tryz.strings_HasPrefix(s p:ByteArray)(w:World) :
    Calls Tryz.prog 213 #[.string s,.string p] w λe w'=>e=.returned (.bool (Lib.hasPrefix s.data.toList p.data.toList))/\w'=w:=Any.strings_HasPrefix Tryz.agU s p w
end Go.Proofs
namespace Go.Rip
open Go.Proofs Go.RowKit
def Pure.FU{f:FuncId}{args:List AV}{vs:List Value}{x:AV}{v:Value}(hargs:∀g us,aJ g args us->us=vs)(hx:∀g,aB g x v)
 (h:∀w,Calls K.P f vs.toArray w λe w'=>e=.returned v/\w'=w):Pure K f args x:=by
 intro U R hR g w us hs hG ha;have:=hargs g us ha;subst this;refine callsIn_wide.2 ((h w).mono λe w' ⟨h1,h2⟩=>?_);subst h1 h2;exact⟨g,U,x,Gh.Le.refl g,hs,hx g,hR⟩
def Pure.U2{f:FuncId}{args:List AV}{vs:List Value}{x:AV}{v:Value}(hargs:∀g us,aJ g args us->us=vs)(hx:∀g,aB g x v)
 (h:∀g U w,bT g U w->kz K g->Calls K.P f vs.toArray w λe w'=>e=.returned v/\∃k os,w'=Go.Sort.grow (w.drewN k) os):Pure K f args x:=by
 intro U R hR g w us hs hG ha;have:=hargs g us ha;subst this;refine callsIn_wide.2 ((h g U w hs hG).mono λe w' ⟨h1,k,os,h2⟩=>?_);subst h1 h2;refine⟨g,U,x,Gh.Le.refl g,hs.grow ⟨rfl,rfl,rfl,?_,λq hq _=>?_⟩,hx g,hR⟩
 . simp[Go.Sort.grow,World.drewN]
 . simp[Go.Sort.grow,World.drewN,Array.getElem?_append,hq]
def abO{g:Gh}{s:List UInt8}{us:List Value}(h:aJ g [.str s] us):us=[.string ⟨s.toArray⟩]:=by
 simp only[aJ,aB]at h;obtain⟨_,_,rfl,rfl,rfl⟩:=h;rfl
def AG(s:List UInt8)(c:Int):Pure K 214 [.str s,.int .u8 c] (.int .i64 (Lib.indexByte s c.toNat.toUInt8)) :=
 Pure.FU (vs:=[.string ⟨s.toArray⟩,.int .u8 c]) (v:=.int .i64 (Lib.indexByte s c.toNat.toUInt8)) (λg us h=>by
  simp only[aJ,aB]at h;obtain⟨_,_,rfl,rfl,_,_,rfl,rfl,rfl⟩:=h;rfl) (λg=>by simp only[aB]) λw=>Tryz.strings_IndexByte ⟨s.toArray⟩ c w
def AH(s:List UInt8)(c:UInt8):Pure K 243 [.str s,.str [c]] (.int .i64 (Lib.indexByte s c)) :=
 Pure.FU (vs:=[.string ⟨s.toArray⟩,.string ⟨#[c]⟩]) (v:=.int .i64 (Lib.indexByte s c)) (λg us h=>by
  simp only[aJ,aB]at h;obtain⟨_,_,rfl,rfl,_,_,rfl,rfl,rfl⟩:=h;rfl) (λg=>by simp only[aB]) λw=>Tryz.stringslite_Index_one ⟨s.toArray⟩ c w
def Ad{b τ:Nat}{a:AV}{l:List UInt8}{U:St}{R:bi}(h0:l≠[])(hb:U.box b=some [a,.vec l.length (.own τ) (l.map λc=>.int .u8 c.toNat)])(ht:U.tok τ=some ⟨l.length,5,1⟩)
 (hR:R (.ret (.str l)) (U.del τ)):ag K 127 [.box b 0] U R:=by
 intro g w us hs hG ha;simp only[aJ,aB]at ha;obtain⟨_,_,rfl,⟨x,hx,rfl⟩,rfl⟩:=ha;obtain⟨x',cur,vs,Lb,k1,k2,k3,k4,k5,k6,k7,k8⟩:=hs.box b _ hb;rw[hx]at k1;cases k1;simp only[aJ,aB]at k6;obtain⟨u,_,rfl,_,v,_,rfl,⟨aR,off,c,vs,rfl,q1,q2,⟨q3,q4⟩,q5,q6⟩,rfl⟩:=k6;subst q3;obtain⟨ajg,c',aga,t1,t2,t3,t4,t5,t6,t7⟩:=hs.tok τ _ ht;rw[q4]at t1;cases t1;have hlen:=q6.length;simp only[List.length_map]at hlen;have c0:w.cell? ⟨x.aR,1,none⟩=some (.slice (some ⟨aR,0,none⟩) l.length c):=by
  rw[cell_of_row _ _ _ cur x.e (0,0) k3,<-nO,k5];rfl
 have AA:w.shape? aR=some (5,aga.size):=by simp only[World.shape?,t3]
 have sP:∀j y,l[j]?=some y->w.cell? ⟨aR,j,none⟩=some (.int .u8 y.toNat):=λj y hy=>by
  obtain⟨v,hv,hr⟩:=q6.get (i:=j) (x:=.int .u8 y.toNat) (by simp[hy]);simp only[aB]at hr;subst hr;have:=(hs.du _ _ _ (q5 j _ hv)).1;rw[cK]at this;exact this
 have ajL:l.length<=9223372036854775807:=by unfold maxLen at q2;omega
 refine callsIn_wide.2 ((acJ x.aR aR c aga.size l w h0 c0 q1 AA (by rw[t4];simp;omega) ajL sP).mono λe w' ⟨h1,h2⟩=>?_);subst h1 h2;have hfc:∀a,(w.drew.freeze ⟨aR,0,none⟩ l.length).cell? a=w.cell? a:=λa=>by
  have tY:l.length≠0:=by simpa using h0
  unfold World.freeze;rw[if_neg tY];simp only[World.cell?,World.drew,Array.getElem?_modify]
  by_cases e:aR=a.block
  . rw[if_pos e,<-e,t3];rfl
  . rw[if_neg e]
 have hhp:∀k,k≠aR->(w.drew.freeze ⟨aR,0,none⟩ l.length).heap[k]?=w.heap[k]?:=λk hk=>by
  have tY:l.length≠0:=by simpa using h0
  unfold World.freeze;rw[if_neg tY];simp only[World.drew,Array.getElem?_modify,if_neg (Ne.symm hk)]
 have gj:(w.drew.freeze ⟨aR,0,none⟩ l.length).heap.size=w.heap.size:=by
  have tY:l.length≠0:=by simpa using h0
  unfold World.freeze;rw[if_neg tY];show (w.heap.modify _ _).size=_;simp
 have hos:(w.drew.freeze ⟨aR,0,none⟩ l.length).os=w.os/\(w.drew.freeze ⟨aR,0,none⟩ l.length).tape=w.tape/\(w.drew.freeze ⟨aR,0,none⟩ l.length).output=w.output:=by
  have tY:l.length≠0:=by simpa using h0
  unfold World.freeze;rw[if_neg tY];exact⟨rfl,rfl,rfl⟩
 have ac9:=St.nC.1 ht;obtain⟨p,hp,sG,tZ⟩:=Gh.nC.1 q4;have agN:p.aR=aR:=sG;have fj:bT g (U.del τ) (w.drew.freeze ⟨aR,0,none⟩ l.length):=by
  refine (hs.weaken (St.xO U τ)).change aR t2 (Gh.Le.refl g) rfl rfl ⟨hos.1,hos.2.1,hos.2.2,by rw[gj];exact da _⟩ (λk hk _=>hhp k hk) (λ_ _ _=>rfl) (λ_ _=>rfl) (λo u hu=>by rw[hfc];exact hs.du _ _ _ hu)
   (λes c hr=>by rw[hs.qd t3]at hr;cases hr) (λb' x' p' h1 h2 e=>?_) (by rw[<-agN];exact hs.yr ac9 hp)
  simp only[St.del]at h1;split at h1
  . cases h1
  . rename_i ne;exact ne (hs.apart _ _ _ _ _ _ h1 ac9 h2 hp (e.trans agN.symm))
 exact⟨g,_,.str l,Gh.Le.refl g,fj,by simp only[aB],hR⟩
def vX{b:Nat}{a:AV}{U:St}{R:bi}(hb:U.box b=some [a,.af])(hR:R (.ret (.str [])) U):ag K 127 [.box b 0] U R:=by
 intro g w us hs hG ha;simp only[aJ,aB]at ha;obtain⟨_,_,rfl,⟨x,hx,rfl⟩,rfl⟩:=ha;obtain⟨x',cur,vs,Lb,k1,k2,k3,k4,k5,k6,k7,k8⟩:=hs.box b _ hb;rw[hx]at k1;cases k1;simp only[aJ,aB]at k6;obtain⟨u,_,rfl,_,v,_,rfl,rfl,rfl⟩:=k6;have c0:w.cell? ⟨x.aR,1,none⟩=some (.slice none 0 0):=by
  rw[cell_of_row _ _ _ cur x.e (0,0) k3,<-nO,k5];rfl
 refine callsIn_wide.2 ((afD x.aR w c0).mono λe w' ⟨h1,h2⟩=>?_);subst h1 h2;exact⟨g,U,.str [],Gh.Le.refl g,hs.grow (nF w),by simp only[aB],hR⟩
def JP(n:Int)(h0:-9223372036854775808<=n)(h1:n<=9223372036854775807):Pure K 257 [.int .i64 n] (.str (Lib.itoa n)) :=
 Pure.U2 (vs:=[.int .i64 n]) (v:=.string ⟨(Lib.itoa n).toArray⟩) (λg us h=>by
  simp only[aJ,aB]at h;obtain⟨_,_,rfl,rfl,rfl⟩:=h;rfl) (λg=>by simp only[aB]) λg U w hs hG=>Tryz.strconv_Itoa n h0 h1 w (by
   obtain⟨k1,t,fr,k2⟩:=hG.2 7 _ (by rfl);have hb:=hs.below.block 7 k1;unfold Lib.TabIs World.var?
   rw[show Tryz.prog.globalNamed "internal/strconv.uint64pow10" = some 7 by kernel_rfl]
   show (match w.heap[7]? with|some (.cells cs _ _)=>some cs|_=>none)=_
   rw[hb,k2])
end Go.Rip
namespace Go.Rip
def Cy:List UInt8->Nat->Int->Int
 | [],_,_=>-1
 | b::l,c,i=>cond (Nat.beq b.toNat c) i (Cy l c (i+1))
def JQ:∀(l:List UInt8)(c:Nat)(i j:Int),0<=i->0<=j->(Cy l c i=-1↔Cy l c j=-1)/\(Cy l c i≠-1->Cy l c i-i=Cy l c j-j)
 | [],_,_,_,_,_=>by simp[Cy]
 | b::l,c,i,j,hi,hj=>by
   simp only[Cy];cases Nat.beq b.toNat c with
   | true=>simp;omega
   | false =>
     simp only[cond_false];obtain⟨h1,h2⟩:=JQ l c (i+1) (j+1) d6 d6;exact⟨h1,λh=>by have:=h2 h;omega⟩
def wD:∀(l:List UInt8)(c:UInt8),Go.Lib.indexByte l c=Cy l c.toNat 0
 | [],_=>rfl
 | b::l,c=>by
   simp only[Go.Lib.indexByte,Cy]
   by_cases h:b=c
   . subst h;simp
   . have hb:(b==c)=false:=by simpa using h
     have hn:Nat.beq b.toNat c.toNat=false:=by
      cases hh:Nat.beq b.toNat c.toNat with
      | false=>rfl
      | true=>exact absurd (UInt8.toNat_inj.1 (gN hh)) h
     rw[hb,hn,wD l c];obtain⟨h1,h2⟩:=JQ l c.toNat 0 1 d6 d6;simp only[bW,if_false,cond_false,Int.zero_add,beq_iff_eq];split
     . rename_i e;rw[h1.1 e]
     . rename_i e;have:=h2 e;omega
def LF:Nat->Nat->List UInt8
 | 0,_=>[]
 | f+1,n=>cond (Nat.ble 10 n) (LF f (n / 10)++[UInt8.ofNat (48+n%10)]) [UInt8.ofNat (48+n)]
def Ps:∀(f n:Nat),n<10 ^ (f+1)->LF (f+1) n=Go.Lib.decDigits n
 | f,n,h=>by
   rw[Go.Lib.decDigits];simp only[LF]
   by_cases n0:n<10
   . have:Nat.ble 10 n=false:=by cases hh:Nat.ble 10 n with|false=>rfl|true=>have:=Nat.le_of_ble_eq_true hh;omega
     rw[this,dif_pos n0];rfl
   . have:Nat.ble 10 n:=Nat.ble_eq_true_of_le d6;rw[this,dif_neg n0,cond_true];cases f with
     | zero=>simp at h;omega
     | succ f=>rw[Ps f (n / 10) (by rw[Nat.pow_succ]at h;omega)]
def bytesOf:List AV->Option (List UInt8)
 | []=>some []
 | .int .u8 n::l=>cond (decide (0<=n)&&decide (n<256)) ((bytesOf l).map λr=>UInt8.ofNat n.toNat::r) none
 | _=>none
def Gx:∀{l:List AV}{bs:List UInt8},bytesOf l=some bs->l=bs.map λc=>.int .u8 c.toNat
 | [],bs,h=>by simp[bytesOf]at h;subst h;rfl
 | x::l,bs,h=>by
   unfold bytesOf at h;split at h
   . rename_i h0;cases h0
   . rename_i n l' h0;cases h0;cases hc:(decide (0<=n)&&decide (n<256)) with
     | false=>rw[hc]at h;cases h
     | true =>
       rw[hc,cond_true]at h;simp only[cS,dU]at hc;rw[so]at h;obtain⟨r,hr,rfl⟩:=h;rw[Gx hr];simp only[fh,List.cons.injEq,AV.int.injEq,true_and,and_true];have:n.toNat<256:=by omega
       rw[UInt8.toNat_ofNat_of_lt' (by exact this)];omega
   . cases h
def SK(f:Nat)(args:List AV):Option AV:=match args with
 | [.str s,.int .u8 c]=>cond (Nat.beq f 214&&(decide (0<=c)&&decide (c<256))) (some (.int .i64 (Cy s c.toNat 0))) none
 | [.str s,.str [c]]=>cond (Nat.beq f 243) (some (.int .i64 (Cy s c.toNat 0))) none
 | [.int .i64 n]=>cond (Nat.beq f 257&&(decide (0<=n)&&decide (n<100000000))) (some (.str (LF 8 n.toNat))) none
 | _=>none
def acB(f:Nat)(args:List AV)(e:ES):Option (AV×ES):=match args with
 | [.box b 0]=>cond (Nat.beq f 190) (match e.live.get b with
    | some (.wV t [.bE,y])=>cond (Nat.beq t 158) (some (.az [],e.set b (.box [.box b 0,y]))) none
    | some (.box (.box b' 0::_))=>cond (Nat.beq b' b) (some (.az [],e)) none
    | _=>none)
   (cond (Nat.beq f 127) (match (cj e).box b with
     | some [_,.vec n (.own τ) l]=>match bytesOf l,(cj e).tok τ with
       | some (c::bs),some ⟨m,5,1⟩=>cond (Nat.beq m n&&Nat.beq n (bs.length+1)) (some (.str (c::bs),e.del τ)) none
       | _,_=>none
     | some [_,.af]=>some (.str [],e)
     | _=>none) none)
 | _=>none
end Go.Rip
