/- Lemmas for the proof: no conditions. -/
import Derived.Test.YtnfpmiiopiinbaaGreatDoorRipZz
import Derived.Shelf.Strings.BuilderX
import Derived.Shelf.RegionOpenPlain
import Derived.Lib.Strings
import Derived.Lib.Builder
import Derived.Lib.UnsafeStr
import Derived.WalkKit
import Derived.Laws.Externs
import Derived.KernelRfl
import Derived.Test.YtnfpmiiopiinbaaGreatDoorProg
import Derived.Test.YtnfpmiiopiinbaaGreatDoorRipC
import Derived.Test.YtnfpmiiopiinbaaGreatDoorRipD
import Derived.RegionTactic
import Derived.ChangeAlike
import Derived.Shelf.Strings.Builder1
import Derived.Shelf.Small.Strs
import Derived.Shelf.Strings.BuilderF
import Derived.Shelf.Strings.BuilderK
import Derived.Shelf.Strconv.Atoi
import Derived.Shelf.Strconv.Itoa0
import Derived.Shelf.Strconv.Itoa1
import Derived.Shelf.LaysM
import Derived.Shelf.Strconv.Itoa2
import Derived.Shelf.Strconv.Itoa3
import Derived.Shelf.Strconv.AtoiErrFast
import Derived.Shelf.Strconv.ParseIntEmpty
import Derived.Shelf.Strconv.AtoiFail
import Derived.Shelf.Strconv.Clone
import Derived.Shelf.Strconv.SyntaxError
import Derived.Shelf.LaysC
import Derived.Shelf.Strconv.ToError
import Derived.Shelf.Strconv.AtoiErr
import Derived.Shelf.Strconv.ErrVar
import Derived.Shelf.Strconv.Lower
import Derived.Shelf.Strconv.ParseUint10
import Derived.Shelf.Strconv.ParseUint10Empty
import Derived.Shelf.Strconv.ParseUint10Any
import Derived.Shelf.Strconv.ParseInt10
import Derived.Shelf.Strconv.AtoiLong
import Derived.Shelf.Strconv.AtoiInnerAll
import Derived.Shelf.Strconv.RangeError
import Derived.Shelf.Strconv.ToErrorRange
import Derived.Shelf.Strconv.AtoiAll
import Derived.Shelf.Strconv.ErrVarAll
import Derived.Shelf.Strings.Search1
import Derived.Shelf.Strings.Search2
import Derived.Shelf.Strings.Cut
import Derived.Shelf.Strings.Shaped
import Derived.Shelf.Strings.Prefix
import Derived.Shelf.Unicode.Latin
import Derived.Shelf.Unicode.DecodeSlow
import Derived.Shelf.Unicode.DecodeAny
import Derived.Shelf.Unicode.Is16White
import Derived.Shelf.Unicode.IsSpaceAny
import Derived.Shelf.Unicode.Is16Any
import Derived.Shelf.Unicode.Is32Any
import Derived.Shelf.Unicode.ExclAny
import Derived.Shelf.Strings.BuilderCap
import Derived.Shelf.Slices.Turned
import Derived.Test.YtnfpmiiopiinbaaGreatDoorRipB
import Derived.Lib.Bytealg
import Derived.Lib.ItoaNum
set_option linter.unusedVariables false
set_option linter.unusedSimpArgs false
set_option linter.loopingSimpArgs false
namespace Go.Rip
open Go.Proofs Go.RowKit
theorem szB:(Tryz.prog.info? 158).map (·.size)=some 2:=by kernel_rfl
theorem acP:liesAt Tryz.prog Tryz.prog.depth 158 (2 / Tryz.prog.cellsOf 158) 0 158 1=true:=by kernel_rfl
theorem Ow:Tryz.prog.follows .mixedOrders=true:=by kernel_rfl
set_option maxHeartbeats 1000000 in
set_option maxRecDepth 100000 in
theorem Wh (b:Nat) (w:World) (h0:w.cell? ⟨b,0,none⟩=some (.pointer (some ⟨b,0,none⟩))) :
    Calls Tryz.prog 190 #[.pointer (some ⟨b,0,none⟩)] w fun e w'=>e=.returned (.tuple #[])/\w'=w:=by
  obtain ⟨j,hj,_⟩:=o1.1 szB
  have mixed:=Ow
  go_enter Tryz.func190,Tryz.ntmps190
  go_wp2
  rw [Lib.run_neq_ptr_same w _ Tryz.underlying156 hj]
  go_wp2
  go_end0
  exact ⟨rfl,rfl⟩
set_option maxHeartbeats 1000000 in
set_option maxRecDepth 100000 in
theorem Sb (b:Nat) (w:World) (h0:w.cell? ⟨b,0,none⟩=some (.pointer none)) (vR:w.shape? b=some (158,2)) (hfz:w.frozen? ⟨b,0,none⟩=false) :
    Calls Tryz.prog 190 #[.pointer (some ⟨b,0,none⟩)] w fun e w'=>e=.returned (.tuple #[])/\w'=w.setCell ⟨b,0,none⟩ (.pointer (some ⟨b,0,none⟩)):=by
  obtain ⟨j,hj,hjs⟩:=o1.1 szB
  have mixed:=Ow
  go_enter Tryz.func190,Tryz.ntmps190
  go_wp2
  rw [Lib.run_to_unsafe w ⟨b,0,none⟩ Tryz.underlying156 Tryz.underlying229 hj (by rw [hjs]; decide) vR (Nat.zero_lt_succ 1)]
  simp only [Result.andThen]
  rw [Oper.upon_value]
  go_wp2
  rw [run_callFunc_extern Tryz.func238 (by kernel_rfl) (by kernel_rfl) (by kernel_rfl) (e:=Extern.AbiNoEscape.same) (by kernel_rfl)]
  rw [Lib.run_noEscape]
  simp only [Result.andThen]
  rw [Oper.upon_value]
  go_wp2
  rw [Lib.run_from_unsafe w ⟨b,0,none⟩ Tryz.underlying229 Tryz.underlying156 hj vR acP]
  simp only [Result.andThen]
  rw [Oper.upon_value]
  go_wp2
  go_end0
  exact ⟨rfl,rfl⟩
end Go.Rip
namespace Go.Rip
open Go.Proofs Go.RowKit
theorem qM {b:Nat} {rest:List AV} {U:St} {R:cO->St->Prop} (hb:U.box b=some (.box b 0::rest)) (hR:R (.ret (.aG [])) U):ag K 190 [.box b 0] U R:=by
 intro g w vs hs hG ha
 simp only [aH,aE] at ha
 obtain ⟨u,us,rfl,⟨x,hx,rfl⟩,rfl⟩:=ha
 obtain ⟨x',cur,vs,Gf,k1,k2,k3,k4,k5,k6,k7,k8⟩:=hs.box b _ hb
 rw [hx] at k1; cases k1
 simp only [aH,aE] at k6
 obtain ⟨u,us,rfl,⟨x',ji,rfl⟩,_⟩:=k6
 have ji:g.box b=some x':=ji
 rw [hx] at ji; cases ji
 have hc:w.cell? ⟨x.aN,0,none⟩=some (.pointer (some ⟨x.aN,0,none⟩)):=by
  rw [cell_of_row _ _ _ cur x.e (0,0) k3,<- lK,k5]; rfl
 refine callsIn_wide.2 ((Wh x.aN w hc).mono fun e w' ⟨h1,h2⟩=>?_)
 subst h1 h2
 exact ⟨g,U,.aG [],Gh.Le.refl g,hs,by simp only [aE]; exact ⟨[],rfl,by simp [aH]⟩,hR⟩
theorem uh {b:Nat} {y:AV} {U:St} {R:cO->St->Prop} (hb:U.live b=some (.sK 158 [.bU,y])) (hR:R (.ret (.aG [])) (U.cG b [.box b 0,y])):ag K 190 [.box b 0] U R:=by
 intro g w vs hs hG ha
 simp only [aH,aE] at ha
 obtain ⟨u,us,rfl,⟨x,hx,rfl⟩,rfl⟩:=ha
 obtain ⟨p,k1,k2,e1,e2,cur,vs,Gf,k3,k4,k5,k6,k7,k8⟩:=hs.live b _ hb
 have ji:g.place b=some x:=hx
 rw [k1] at ji; cases ji
 have oO:U.box b=some [.bU,y]:=by simp [St.box,hb]
 simp only [aH,aE] at k6
 obtain ⟨u,us,rfl,rfl,v,us',rfl,hv,rfl⟩:=k6
 have hc:w.cell? ⟨x.aN,0,none⟩=some (.pointer none):=by
  rw [cell_of_row _ _ _ cur x.e (0,0) k3,<- lK,k5]; rfl
 have hf:w.frozen? ⟨x.aN,0,none⟩=false:=by
  simp [World.frozen?,k3]
 have vR:w.shape? x.aN=some (158,2):=by
  simp only [World.shape?,k3,e1]
  have:cur.size=2:=by rw [k4,e2]; rfl
  rw [this]
 refine callsIn_wide.2 ((Sb x.aN w hc vR hf).mono fun e w' ⟨h1,h2⟩=>?_)
 subst h1 h2
 rw [setCell_eq_setRow w x.aN 0 cur x.e (0,0) _ k3]
 have wR:=hs.setRow (l':=[.box b 0,y]) oO hx (cur.setIfInBounds 0 (.pointer (some ⟨x.aN,0,none⟩))) [.pointer (some ⟨x.aN,0,none⟩),v] Gf (by simp [k4]) (by
  rw [Array.toList_setIfInBounds,k5]; rfl) (by simp only [aH,aE]; exact ⟨_,_,rfl,⟨x,hx,rfl⟩,_,_,rfl,hv,rfl⟩) (fun u hu=>by
  rw [Array.toList_setIfInBounds] at hu
  rcases List.mem_or_eq_of_mem_set hu with h | h
  . exact k7 u h
  . subst h; rfl)
 exact ⟨g,_,.aG [],Gh.Le.refl g,wR,by simp only [aE]; exact ⟨[],rfl,by simp [aH]⟩,hR⟩
end Go.Rip
namespace Go.Rip
open Go.Proofs Go.RowKit
theorem cellsByte:Tryz.prog.cellsOf 5=1:=by kernel_rfl
set_option maxHeartbeats 2000000 in
set_option maxRecDepth 100000 in
theorem TY (b g cap cells:Nat) (l:List UInt8) (w:World) (h0:l ≠ []) (c0:w.cell? ⟨b,1,none⟩=some (.slice (some ⟨g,0,none⟩) l.length cap)) (yX:l.length <= cap) (vR:w.shape? g=some (5,cells)) (hn:l.length <= cells) (hm:l.length <= 9223372036854775807)
    (rn:∀ j x,l[j]?=some x->w.cell? ⟨g,j,none⟩=some (.int .u8 x.toNat)) :
    Calls Tryz.prog 127 #[.pointer (some ⟨b,0,none⟩)] w fun e w'=>e=.returned (.string ⟨l.toArray⟩)/\w'=w.drew.freeze ⟨g,0,none⟩ l.length:=by
  have rR:l.length ≠ 0:=by simpa using h0
  have c1:w.drew.cell? ⟨b,1,none⟩=some (.slice (some ⟨g,0,none⟩) l.length cap):=c0
  have hSD:(Builtin.unsafeSliceData_ #[106] 196 #[.slice (some ⟨g,0,none⟩) l.length cap]).run Tryz.prog w.drew=.ok (.pointer (some ⟨g,0,none⟩)) w.drew :=
    Lib.run_unsafeSliceData_row _ _ _ _ _ _ (by omega)
  have kx:∀ j,(⟨g,0,none⟩:Addr).add j=⟨g,j,none⟩:=fun j=>by unfold Addr.add; split <;> simp_all
  have hUS:(Builtin.unsafeString_ #[196,3] 9 #[.pointer (some ⟨g,0,none⟩),.int .i64 l.length]).run Tryz.prog w.drew=.ok (.string ⟨l.toArray⟩) (w.drew.freeze ⟨g,0,none⟩ l.length):=by
    refine Lib.run_unsafeString_row w.drew 196 3 9 5 Tryz.underlying196 cellsByte g cells vR l h0 hn hm ?_
    intro j x hx
    rw [kx]
    exact rn j x hx
  have mixed:Tryz.prog.follows .mixedOrders=true:=by kernel_rfl
  clear c0 rn kx vR
  go_enter Tryz.func127,Tryz.ntmps127
  go_wp2
  go_region
  all_goals (go_wp2; go_ret; exact ⟨rfl,rfl⟩)
set_option maxHeartbeats 2000000 in
set_option maxRecDepth 100000 in
theorem Xc (b:Nat) (w:World) (c0:w.cell? ⟨b,1,none⟩=some (.slice none 0 0)) :
    Calls Tryz.prog 127 #[.pointer (some ⟨b,0,none⟩)] w fun e w'=>e=.returned (.string ⟨#[]⟩)/\w'=w.drew:=by
  have c1:w.drew.cell? ⟨b,1,none⟩=some (.slice none 0 0):=c0
  have hSD:(Builtin.unsafeSliceData_ #[106] 196 #[.slice none 0 0]).run Tryz.prog w.drew=.ok (.pointer none) w.drew:=rfl
  have hUS:=fun q:Option Addr=>Lib.run_unsafeString_none (P:=Tryz.prog) (w:=w.drew) 196 3 9 q
  have mixed:Tryz.prog.follows .mixedOrders=true:=by kernel_rfl
  clear c0
  go_enter Tryz.func127,Tryz.ntmps127
  go_wp2
  go_region
  all_goals (go_wp2; go_ret; exact ⟨rfl,rfl⟩)
end Go.Rip
namespace Go.Proofs
open Go.Shelf
def Tryz.Jm:Go.Shelf.Ren:=⟨fun | 137=>214 | 217=>245 | 266=>261 | n=>n,fun | 9=>9 | 5=>5 | 3=>3 | n=>n,fun | n=>n⟩
theorem Tryz.Wx:Go.Proofs.Lays.n137 Tryz.prog Tryz.Jm:={
 mixed:=by kernel_rfl
 f137:=Tryz.func214.trans (congrArg some (by kernel_rfl))
 f217:=Tryz.func245.trans (congrArg some (by kernel_rfl))
 f266:=Tryz.func261.trans (congrArg some (by kernel_rfl))
 t3:=Tryz.underlying3
 a3:=Tryz.isAgg3
 z3:=Tryz.sizeOf3
 v3:=Tryz.zeroValue3
 t5:=Tryz.underlying5
 a5:=Tryz.isAgg5
 z5:=Tryz.sizeOf5
 v5:=Tryz.zeroValue5
 t9:=Tryz.underlying9
 a9:=Tryz.isAgg9
 z9:=Tryz.sizeOf9
 v9:=Tryz.zeroValue9 }
open Go.RowKit in
theorem Tryz.strings_IndexByte (s:ByteArray) (c:Int) (w:World) :
    Calls Tryz.prog 214 #[.string s,.int .u8 c] w fun e w'=>e=.returned (.int .i64 (Lib.indexByte s.data.toList c.toNat.toUInt8))/\w'=w:=Any.strings_IndexByte Tryz.Wx s c w
def Tryz.HE:Go.Shelf.Ren:=⟨fun | 171=>257 | 243=>271 | 246=>280 | 283=>283 | 284=>284 | 285=>285 | 286=>286 | 129=>288 | 317=>287 | 318=>289 | 319=>290 | 320=>291 | 337=>292 | 338=>293 | n=>n,fun | 3=>3 | 9=>9 | 2=>2 | 4=>4 | 171=>282 | 0=>0 | 53=>268 | 37=>106 | 5=>5 | 173=>285 | 212=>288 | 51=>244 | 20=>20 | 213=>289 | 46=>243 | 232=>292 | 233=>293 | n=>n,fun | 17=>7 | 18=>8 | 19=>9 | n=>n⟩
theorem Tryz.S3:Go.Proofs.LaysM.n171 Tryz.prog Tryz.HE:={
 mixed:=by kernel_rfl
 f129:=Tryz.func288.trans (congrArg some (by kernel_rfl))
 f171:=Tryz.func257.trans (congrArg some (by kernel_rfl))
 f243:=Tryz.func271.trans (congrArg some (by kernel_rfl))
 f246:=Tryz.func280.trans (congrArg some (by kernel_rfl))
 f283:=Tryz.func283.trans (congrArg some (by kernel_rfl))
 f284:=Tryz.func284.trans (congrArg some (by kernel_rfl))
 f285:=Tryz.func285.trans (congrArg some (by kernel_rfl))
 f286:=Tryz.func286.trans (congrArg some (by kernel_rfl))
 f317:=Tryz.func287.trans (congrArg some (by kernel_rfl))
 f318:=Tryz.func289.trans (congrArg some (by kernel_rfl))
 f319:=Tryz.func290.trans (congrArg some (by kernel_rfl))
 f320:=Tryz.func291.trans (congrArg some (by kernel_rfl))
 f337:=Tryz.func292.trans (congrArg some (by kernel_rfl))
 f338:=Tryz.func293.trans (congrArg some (by kernel_rfl))
 t0:=Tryz.underlying0
 a0:=Tryz.isAgg0
 z0:=Tryz.sizeOf0
 v0:=Tryz.zeroValue0
 t2:=Tryz.underlying2
 a2:=Tryz.isAgg2
 z2:=Tryz.sizeOf2
 v2:=Tryz.zeroValue2
 t3:=Tryz.underlying3
 a3:=Tryz.isAgg3
 z3:=Tryz.sizeOf3
 v3:=Tryz.zeroValue3
 t4:=Tryz.underlying4
 a4:=Tryz.isAgg4
 z4:=Tryz.sizeOf4
 v4:=Tryz.zeroValue4
 t5:=Tryz.underlying5
 a5:=Tryz.isAgg5
 z5:=Tryz.sizeOf5
 v5:=Tryz.zeroValue5
 t9:=Tryz.underlying9
 a9:=Tryz.isAgg9
 z9:=Tryz.sizeOf9
 v9:=Tryz.zeroValue9
 t20:=Tryz.underlying20
 a20:=Tryz.isAgg20
 z20:=Tryz.sizeOf20
 v20:=Tryz.zeroValue20
 t37:=Tryz.underlying106
 a37:=Tryz.isAgg106
 z37:=Tryz.sizeOf106
 v37:=Tryz.zeroValue106
 t46:=Tryz.underlying243
 a46:=Tryz.isAgg243
 z46:=Tryz.sizeOf243
 v46:=Tryz.zeroValue243
 t51:=Tryz.underlying244
 a51:=Tryz.isAgg244
 z51:=Tryz.sizeOf244
 v51:=Tryz.zeroValue244
 t53:=Tryz.underlying268
 a53:=Tryz.isAgg268
 z53:=Tryz.sizeOf268
 v53:=Tryz.zeroValue268
 t171:=Tryz.underlying282
 a171:=Tryz.isAgg282
 z171:=Tryz.sizeOf282
 v171:=Tryz.zeroValue282
 t173:=Tryz.underlying285
 a173:=Tryz.isAgg285
 z173:=Tryz.sizeOf285
 v173:=Tryz.zeroValue285
 t212:=Tryz.underlying288
 a212:=Tryz.isAgg288
 z212:=Tryz.sizeOf288
 v212:=Tryz.zeroValue288
 t213:=Tryz.underlying289
 a213:=Tryz.isAgg289
 z213:=Tryz.sizeOf289
 t232:=Tryz.underlying292
 a232:=Tryz.isAgg292
 z232:=Tryz.sizeOf292
 v232:=Tryz.zeroValue292
 t233:=Tryz.underlying293
 a233:=Tryz.isAgg293
 z233:=Tryz.sizeOf293
 v233:=Tryz.zeroValue293
 g17:=by kernel_rfl
 g18:=by kernel_rfl
 g19:=by kernel_rfl
 i0:=by kernel_rfl
 i2:=by kernel_rfl
 i3:=by kernel_rfl
 i4:=by kernel_rfl
 i5:=by kernel_rfl
 i9:=by kernel_rfl
 i20:=by kernel_rfl
 i37:=by kernel_rfl
 i46:=by kernel_rfl
 i51:=by kernel_rfl
 i53:=by kernel_rfl
 i171:=by kernel_rfl
 i173:=by kernel_rfl
 i212:=by kernel_rfl
 i232:=by kernel_rfl
 i233:=by kernel_rfl
 m17:=by kernel_rfl
 m18:=by kernel_rfl
 m19:=by kernel_rfl }
open Go.RowKit Go.Sort Go.Lib in
theorem Tryz.strconv_Itoa (n:Int) (h0:-9223372036854775808 <= n) (h1:n <= 9223372036854775807) (w:World) (aeD:Lib.TabIs Tryz.prog w "internal/strconv.uint64pow10" .u64 Lib.pow10Tab) :
    Calls Tryz.prog 257 #[.int .i64 n] w fun e w'=>e=.returned (.string ⟨(Lib.itoa n).toArray⟩)/\∃ k os,w'=grow (w.drewN k) os:=Any.strconv_Itoa Tryz.S3 n h0 h1 w aeD
def Tryz.Jn:Go.Shelf.Ren:=⟨fun | 219=>243 | 217=>245 | 225=>258 | 224=>259 | 267=>260 | 266=>261 | 314=>272 | n=>n,fun | 9=>9 | 3=>3 | 4=>4 | 5=>5 | 46=>243 | 146=>253 | 51=>244 | n=>n,fun | 1=>1 | n=>n⟩
theorem Tryz.Wy:Go.Proofs.Lays.n219 Tryz.prog Tryz.Jn:={
 mixed:=by kernel_rfl
 f217:=Tryz.func245.trans (congrArg some (by kernel_rfl))
 f219:=Tryz.func243.trans (congrArg some (by kernel_rfl))
 f224:=Tryz.func259.trans (congrArg some (by kernel_rfl))
 f225:=Tryz.func258.trans (congrArg some (by kernel_rfl))
 f266:=Tryz.func261.trans (congrArg some (by kernel_rfl))
 f267:=Tryz.func260.trans (congrArg some (by kernel_rfl))
 f314:=Tryz.func272.trans (congrArg some (by kernel_rfl))
 t3:=Tryz.underlying3
 a3:=Tryz.isAgg3
 z3:=Tryz.sizeOf3
 v3:=Tryz.zeroValue3
 t4:=Tryz.underlying4
 a4:=Tryz.isAgg4
 z4:=Tryz.sizeOf4
 v4:=Tryz.zeroValue4
 t5:=Tryz.underlying5
 a5:=Tryz.isAgg5
 z5:=Tryz.sizeOf5
 v5:=Tryz.zeroValue5
 t9:=Tryz.underlying9
 a9:=Tryz.isAgg9
 z9:=Tryz.sizeOf9
 v9:=Tryz.zeroValue9
 t46:=Tryz.underlying243
 a46:=Tryz.isAgg243
 z46:=Tryz.sizeOf243
 v46:=Tryz.zeroValue243
 t51:=Tryz.underlying244
 a51:=Tryz.isAgg244
 z51:=Tryz.sizeOf244
 v51:=Tryz.zeroValue244
 t146:=Tryz.underlying253
 a146:=Tryz.isAgg253
 z146:=Tryz.sizeOf253
 v146:=Tryz.zeroValue253
 g1:=by kernel_rfl }
open Go.RowKit Go.Lib in
theorem Tryz.stringslite_Index_one (s:ByteArray) (c:UInt8) (w:World) :
    Calls Tryz.prog 243 #[.string s,.string ⟨#[c]⟩] w fun e w'=>e=.returned (.int .i64 (Lib.indexByte s.data.toList c))/\w'=w:=Any.stringslite_Index_one Tryz.Wy s c w
def Tryz.LI:Go.Shelf.Ren:=⟨fun | 99=>213 | 206=>244 | n=>n,fun | 9=>9 | 4=>4 | 3=>3 | n=>n,fun | n=>n⟩
theorem Tryz.aam:Go.Proofs.Lays.n99 Tryz.prog Tryz.LI:={
 mixed:=by kernel_rfl
 f99:=Tryz.func213.trans (congrArg some (by kernel_rfl))
 f206:=Tryz.func244.trans (congrArg some (by kernel_rfl))
 t3:=Tryz.underlying3
 a3:=Tryz.isAgg3
 z3:=Tryz.sizeOf3
 v3:=Tryz.zeroValue3
 t4:=Tryz.underlying4
 a4:=Tryz.isAgg4
 z4:=Tryz.sizeOf4
 v4:=Tryz.zeroValue4
 t9:=Tryz.underlying9
 a9:=Tryz.isAgg9
 z9:=Tryz.sizeOf9
 v9:=Tryz.zeroValue9 }
open Go.RowKit Go.Lib in
theorem Tryz.strings_HasPrefix (s p:ByteArray) (w:World) :
    Calls Tryz.prog 213 #[.string s,.string p] w fun e w'=>e=.returned (.bool (Lib.hasPrefix s.data.toList p.data.toList))/\w'=w:=Any.strings_HasPrefix Tryz.aam s p w
end Go.Proofs
namespace Go.Rip
open Go.Proofs Go.RowKit
theorem Pure.BC {f:FuncId} {args:List AV} {vs:List Value} {x:AV} {v:Value} (hargs:∀ g us,aH g args us->us=vs) (hx:∀ g,aE g x v)
 (h:∀ w,Calls K.P f vs.toArray w fun e w'=>e=.returned v/\w'=w):Pure K f args x:=by
 intro U R hR g w us hs hG ha
 have:=hargs g us ha
 subst this
 refine callsIn_wide.2 ((h w).mono fun e w' ⟨h1,h2⟩=>?_)
 subst h1 h2
 exact ⟨g,U,x,Gh.Le.refl g,hs,hx g,hR⟩
theorem Pure.OD {f:FuncId} {args:List AV} {vs:List Value} {x:AV} {v:Value} (hargs:∀ g us,aH g args us->us=vs) (hx:∀ g,aE g x v)
 (h:∀ g U w,bp g U w->ix K g->Calls K.P f vs.toArray w fun e w'=>e=.returned v/\∃ k os,w'=Go.Sort.grow (w.drewN k) os):Pure K f args x:=by
 intro U R hR g w us hs hG ha
 have:=hargs g us ha
 subst this
 refine callsIn_wide.2 ((h g U w hs hG).mono fun e w' ⟨h1,k,os,h2⟩=>?_)
 subst h1 h2
 refine ⟨g,U,x,Gh.Le.refl g,hs.grow ⟨rfl,rfl,rfl,?_,fun q hq _=>?_⟩,hx g,hR⟩
 . simp [Go.Sort.grow,World.drewN]
 . simp [Go.Sort.grow,World.drewN,Array.getElem?_append,hq]
theorem vV (s:List UInt8) (c:Int):Pure K 214 [.str s,.int .u8 c] (.int .i64 (Lib.indexByte s c.toNat.toUInt8)) :=
 Pure.BC (vs:=[.string ⟨s.toArray⟩,.int .u8 c]) (v:=.int .i64 (Lib.indexByte s c.toNat.toUInt8)) (fun g us h=>by
  simp only [aH,aE] at h
  obtain ⟨_,_,rfl,rfl,_,_,rfl,rfl,rfl⟩:=h; rfl) (fun g=>by simp only [aE]) fun w=>Tryz.strings_IndexByte ⟨s.toArray⟩ c w
theorem vW (s:List UInt8) (c:UInt8):Pure K 243 [.str s,.str [c]] (.int .i64 (Lib.indexByte s c)) :=
 Pure.BC (vs:=[.string ⟨s.toArray⟩,.string ⟨#[c]⟩]) (v:=.int .i64 (Lib.indexByte s c)) (fun g us h=>by
  simp only [aH,aE] at h
  obtain ⟨_,_,rfl,rfl,_,_,rfl,rfl,rfl⟩:=h; rfl) (fun g=>by simp only [aE]) fun w=>Tryz.stringslite_Index_one ⟨s.toArray⟩ c w
theorem vA {b τ:Nat} {a:AV} {l:List UInt8} {U:St} {R:cO->St->Prop} (h0:l ≠ []) (hb:U.box b=some [a,.vec l.length (.own τ) (l.map fun c=>.int .u8 c.toNat)]) (ht:U.tok τ=some ⟨l.length,5,1⟩)
 (hR:R (.ret (.str l)) (U.del τ)):ag K 127 [.box b 0] U R:=by
 intro g w us hs hG ha
 simp only [aH,aE] at ha
 obtain ⟨_,_,rfl,⟨x,hx,rfl⟩,rfl⟩:=ha
 obtain ⟨x',cur,vs,Gf,k1,k2,k3,k4,k5,k6,k7,k8⟩:=hs.box b _ hb
 rw [hx] at k1; cases k1
 simp only [aH,aE] at k6
 obtain ⟨u,_,rfl,_,v,_,rfl,⟨aN,off,c,vs,rfl,q1,q2,⟨q3,q4⟩,q5,q6⟩,rfl⟩:=k6
 subst q3
 obtain ⟨ad1,c',Za,t1,t2,t3,t4,t5,t6,t7⟩:=hs.tok τ _ ht
 rw [q4] at t1; cases t1
 have hlen:=q6.length
 simp only [List.length_map] at hlen
 have c0:w.cell? ⟨x.aN,1,none⟩=some (.slice (some ⟨aN,0,none⟩) l.length c):=by
  rw [cell_of_row _ _ _ cur x.e (0,0) k3,<- lK,k5]; rfl
 have vR:w.shape? aN=some (5,Za.size):=by simp only [World.shape?,t3]
 have rn:∀ j y,l[j]?=some y->w.cell? ⟨aN,j,none⟩=some (.int .u8 y.toNat):=fun j y hy=>by
  obtain ⟨v,hv,hr⟩:=q6.get (i:=j) (x:=.int .u8 y.toNat) (by simp [hy])
  simp only [aE] at hr
  subst hr
  have:=(hs.cC _ _ _ (q5 j _ hv)).1
  rw [dI] at this; exact this
 have aer:l.length <= 9223372036854775807:=by unfold maxLen at q2; omega
 refine callsIn_wide.2 ((TY x.aN aN c Za.size l w h0 c0 q1 vR (by rw [t4]; simp; omega) aer rn).mono fun e w' ⟨h1,h2⟩=>?_)
 subst h1 h2
 have hfc:∀ a,(w.drew.freeze ⟨aN,0,none⟩ l.length).cell? a=w.cell? a:=fun a=>by
  have rR:l.length ≠ 0:=by simpa using h0
  unfold World.freeze
  rw [if_neg rR]
  simp only [World.cell?,World.drew,Array.getElem?_modify]
  by_cases e:aN=a.block
  . rw [if_pos e,<- e,t3]; rfl
  . rw [if_neg e]
 have hhp:∀ k,k ≠ aN->(w.drew.freeze ⟨aN,0,none⟩ l.length).heap[k]?=w.heap[k]?:=fun k hk=>by
  have rR:l.length ≠ 0:=by simpa using h0
  unfold World.freeze
  rw [if_neg rR]
  simp only [World.drew,Array.getElem?_modify,if_neg (Ne.symm hk)]
 have eH:(w.drew.freeze ⟨aN,0,none⟩ l.length).heap.size=w.heap.size:=by
  have rR:l.length ≠ 0:=by simpa using h0
  unfold World.freeze
  rw [if_neg rR]; show (w.heap.modify _ _).size=_; simp
 have hos:(w.drew.freeze ⟨aN,0,none⟩ l.length).os=w.os/\(w.drew.freeze ⟨aN,0,none⟩ l.length).tape=w.tape/\(w.drew.freeze ⟨aN,0,none⟩ l.length).output=w.output:=by
  have rR:l.length ≠ 0:=by simpa using h0
  unfold World.freeze
  rw [if_neg rR]; exact ⟨rfl,rfl,rfl⟩
 have UN:=St.kj.1 ht
 obtain ⟨p,hp,qj,sG⟩:=Gh.kj.1 q4
 have aad:p.aN=aN:=qj
 have eE:bp g (U.del τ) (w.drew.freeze ⟨aN,0,none⟩ l.length):=by
  refine (hs.weaken (St.vC U τ)).change aN t2 (Gh.Le.refl g) rfl rfl ⟨hos.1,hos.2.1,hos.2.2,by rw [eH]; exact gE _⟩ (fun k hk _=>hhp k hk) (fun _ _ _=>rfl) (fun _ _=>rfl) (fun o u hu=>by rw [hfc]; exact hs.cC _ _ _ hu)
   (fun es c hr=>by rw [hs.pv t3] at hr; cases hr) (fun b' x' p' h1 h2 e=>?_) (by rw [<- aad]; exact hs.xH UN hp)
  simp only [St.del] at h1
  split at h1
  . cases h1
  . rename_i ne; exact ne (hs.apart _ _ _ _ _ _ h1 UN h2 hp (e.trans aad.symm))
 exact ⟨g,_,.str l,Gh.Le.refl g,eE,by simp only [aE],hR⟩
theorem rM {b:Nat} {a:AV} {U:St} {R:cO->St->Prop} (hb:U.box b=some [a,.aA]) (hR:R (.ret (.str [])) U):ag K 127 [.box b 0] U R:=by
 intro g w us hs hG ha
 simp only [aH,aE] at ha
 obtain ⟨_,_,rfl,⟨x,hx,rfl⟩,rfl⟩:=ha
 obtain ⟨x',cur,vs,Gf,k1,k2,k3,k4,k5,k6,k7,k8⟩:=hs.box b _ hb
 rw [hx] at k1; cases k1
 simp only [aH,aE] at k6
 obtain ⟨u,_,rfl,_,v,_,rfl,rfl,rfl⟩:=k6
 have c0:w.cell? ⟨x.aN,1,none⟩=some (.slice none 0 0):=by
  rw [cell_of_row _ _ _ cur x.e (0,0) k3,<- lK,k5]; rfl
 refine callsIn_wide.2 ((Xc x.aN w c0).mono fun e w' ⟨h1,h2⟩=>?_)
 subst h1 h2
 exact ⟨g,U,.str [],Gh.Le.refl g,hs.grow (ku w),by simp only [aE],hR⟩
theorem EU (n:Int) (h0:-9223372036854775808 <= n) (h1:n <= 9223372036854775807):Pure K 257 [.int .i64 n] (.str (Lib.itoa n)) :=
 Pure.OD (vs:=[.int .i64 n]) (v:=.string ⟨(Lib.itoa n).toArray⟩) (fun g us h=>by
  simp only [aH,aE] at h
  obtain ⟨_,_,rfl,rfl,rfl⟩:=h; rfl) (fun g=>by simp only [aE]) fun g U w hs hG=>Tryz.strconv_Itoa n h0 h1 w (by
   obtain ⟨k1,t,fr,k2⟩:=hG.2 7 _ (by rfl)
   have hb:=hs.below.block 7 k1
   unfold Lib.TabIs World.var?
   rw [show Tryz.prog.globalNamed "internal/strconv.uint64pow10" = some 7 by kernel_rfl]
   show (match w.heap[7]? with | some (.cells cs _ _)=>some cs | _=>none)=_
   rw [hb,k2])
end Go.Rip
namespace Go.Rip
def yn:List UInt8->Nat->Int->Int
 | [],_,_=>-1
 | b::l,c,i=>cond (Nat.beq b.toNat c) i (yn l c (i+1))
theorem EV:∀ (l:List UInt8) (c:Nat) (i j:Int),0 <= i->0 <= j->(yn l c i=-1 ↔ yn l c j=-1)/\(yn l c i ≠ -1->yn l c i - i=yn l c j - j)
 | [],_,_,_,_,_=>by simp [yn]
 | b::l,c,i,j,hi,hj=>by
   simp only [yn]
   cases Nat.beq b.toNat c with
   | true=>simp; omega
   | false =>
     simp only [cond_false]
     obtain ⟨h1,h2⟩:=EV l c (i+1) (j+1) (by omega) (by omega)
     exact ⟨h1,fun h=>by have:=h2 h; omega⟩
theorem sk:∀ (l:List UInt8) (c:UInt8),Go.Lib.indexByte l c=yn l c.toNat 0
 | [],_=>rfl
 | b::l,c=>by
   simp only [Go.Lib.indexByte,yn]
   by_cases h:b=c
   . subst h; simp
   . have hb:(b == c)=false:=by simpa using h
     have hn:Nat.beq b.toNat c.toNat=false:=by
      cases hh:Nat.beq b.toNat c.toNat with
      | false=>rfl
      | true=>exact absurd (UInt8.toNat_inj.1 (eQ hh)) h
     rw [hb,hn,sk l c]
     obtain ⟨h1,h2⟩:=EV l c.toNat 0 1 (by omega) (by omega)
     simp only [bC,if_false,cond_false,Int.zero_add,beq_iff_eq]
     split
     . rename_i e; rw [h1.1 e]
     . rename_i e; have:=h2 e; omega
def GI:Nat->Nat->List UInt8
 | 0,_=>[]
 | f+1,n=>cond (Nat.ble 10 n) (GI f (n / 10)++[UInt8.ofNat (48+n % 10)]) [UInt8.ofNat (48+n)]
theorem J0:∀ (f n:Nat),n < 10 ^ (f+1)->GI (f+1) n=Go.Lib.decDigits n
 | f,n,h=>by
   rw [Go.Lib.decDigits]
   simp only [GI]
   by_cases qH:n < 10
   . have:Nat.ble 10 n=false:=by cases hh:Nat.ble 10 n with | false=>rfl | true=>have:=Nat.le_of_ble_eq_true hh; omega
     rw [this,dif_pos qH]; rfl
   . have:Nat.ble 10 n=true:=Nat.ble_eq_true_of_le (by omega)
     rw [this,dif_neg qH,cond_true]
     cases f with
     | zero=>simp at h; omega
     | succ f=>rw [J0 f (n / 10) (by rw [Nat.pow_succ] at h; omega)]
def bytesOf:List AV->Option (List UInt8)
 | []=>some []
 | .int .u8 n::l=>cond (decide (0 <= n) && decide (n < 256)) ((bytesOf l).map fun r=>UInt8.ofNat n.toNat::r) none
 | _=>none
theorem Cc:∀ {l:List AV} {bs:List UInt8},bytesOf l=some bs->l=bs.map fun c=>.int .u8 c.toNat
 | [],bs,h=>by simp [bytesOf] at h; subst h; rfl
 | x::l,bs,h=>by
   unfold bytesOf at h
   split at h
   . rename_i h0; cases h0
   . rename_i n l' h0
     cases h0
     cases hc:(decide (0 <= n) && decide (n < 256)) with
     | false=>rw [hc] at h; cases h
     | true =>
       rw [hc,cond_true] at h
       simp only [bX,da] at hc
       rw [o1] at h
       obtain ⟨r,hr,rfl⟩:=h
       rw [Cc hr]
       simp only [dV,List.cons.injEq,AV.int.injEq,true_and,and_true]
       have:n.toNat < 256:=by omega
       rw [UInt8.toNat_ofNat_of_lt' (by exact this)]
       omega
   . cases h
def Mv (f:Nat) (args:List AV):Option AV:=match args with
 | [.str s,.int .u8 c]=>cond (Nat.beq f 214 && (decide (0 <= c) && decide (c < 256))) (some (.int .i64 (yn s c.toNat 0))) none
 | [.str s,.str [c]]=>cond (Nat.beq f 243) (some (.int .i64 (yn s c.toNat 0))) none
 | [.int .i64 n]=>cond (Nat.beq f 257 && (decide (0 <= n) && decide (n < 100000000))) (some (.str (GI 8 n.toNat))) none
 | _=>none
def TT (f:Nat) (args:List AV) (e:ES):Option (AV × ES):=match args with
 | [.box b 0]=>cond (Nat.beq f 190) (match e.live.get b with
    | some (.sK t [.bU,y])=>cond (Nat.beq t 158) (some (.aG [],e.set b (.box [.box b 0,y]))) none
    | some (.box (.box b' 0::_))=>cond (Nat.beq b' b) (some (.aG [],e)) none
    | _=>none)
   (cond (Nat.beq f 127) (match (bJ e).box b with
     | some [_,.vec n (.own τ) l]=>match bytesOf l,(bJ e).tok τ with
       | some (c::bs),some ⟨m,5,1⟩=>cond (Nat.beq m n && Nat.beq n (bs.length+1)) (some (.str (c::bs),e.del τ)) none
       | _,_=>none
     | some [_,.aA]=>some (.str [],e)
     | _=>none) none)
 | _=>none
end Go.Rip
