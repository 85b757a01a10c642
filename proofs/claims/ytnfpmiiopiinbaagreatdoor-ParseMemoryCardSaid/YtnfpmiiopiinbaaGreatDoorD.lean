import Derived.KernelRfl
import Derived.Lib.LaidTab
import Derived.Lib.ItoaNum
import Derived.Test.YtnfpmiiopiinbaaGreatDoorProg
import Derived.Test.YtnfpmiiopiinbaaGreatDoorC
set_option linter.all false
namespace Go.Rip
def w_:List UInt8:=[]
def yB:List UInt8:=[48,49,50,51,52,53,54,55,56,57]
def pV:List UInt8:=[10]
def SR:List UInt8:=[32]
def rD:List UInt8:=[32,40]
def Gk:List UInt8:=[32,46]
def vq:List UInt8:=[32,58]
def oQ:List UInt8:=[32,58,32]
def zY:List UInt8:=[32,58,61]
def je:List UInt8:=[32,58,61,32]
def rS:List UInt8:=[32,105,110]
def ni:List UInt8:=[33]
def Gl:List UInt8:=[33,32]
def dM:List UInt8:=[40]
def dE:List UInt8:=[41]
def IW:List UInt8:=[41,32,45,62]
def Pa:List UInt8:=[41,32,58]
def qO:List UInt8:=[42]
def pW:List UInt8:=[43]
def ep:List UInt8:=[44]
def oY:List UInt8:=[45]
def gn:List UInt8:=[45,62]
def sW:List UInt8:=[46]
def ef:List UInt8:=[58]
def bY:List UInt8:=[58,61]
def dF:List UInt8:=[59]
def rT:List UInt8:=[59,32,112,117,116,32]
def pX:List UInt8:=[60]
def gH:List UInt8:=[61]
def fG:List UInt8:=[61,60,43,45,42,33,40,41,123,125,44,59,58,46]
def qP:List UInt8:=[123]
def Pb:List UInt8:=[123,32,103,101,116]
def sX:List UInt8:=[125]
def sY:List UInt8:=[97,110,100]
def su:List UInt8:=[97,115]
def IX:List UInt8:=[97,115,32]
def sN:List UInt8:=[98,111,111,108]
def kh:List UInt8:=[99,101,108,108]
def D7:List UInt8:=[99,101,108,108,32]
def jz:List UInt8:=[99,104,111,111,115,101]
def vR:List UInt8:=[99,111,109]
def jc:List UInt8:=[100,101,102]
def Gm:List UInt8:=[100,101,102,32]
def vr:List UInt8:=[100,111]
def gh:List UInt8:=[101,108,115,101]
def eW:List UInt8:=[101,120,112,111,114,116]
def zZ:List UInt8:=[101,120,112,111,114,116,32]
def eK:List UInt8:=[102,97,108,115,101]
def wJ:List UInt8:=[102,110]
def SS:List UInt8:=[102,110,32,40]
def vS:List UInt8:=[103,101,116]
def iZ:List UInt8:=[104,97,110,103]
def uy:List UInt8:=[105,102]
def eD:List UInt8:=[105,109,112,111,114,116]
def vT:List UInt8:=[105,109,112,111,114,116,32]
def jQ:List UInt8:=[105,110]
def lq:List UInt8:=[105,110,116]
def Gn:List UInt8:=[105,110,116,32]
def lL:List UInt8:=[106,117,109,112]
def D8:List UInt8:=[106,117,109,112,32]
def mJ:List UInt8:=[108,97,98,101,108]
def xu:List UInt8:=[108,97,98,101,108,32]
def qQ:List UInt8:=[110,101,119]
def rE:List UInt8:=[110,101,119,32]
def uA:List UInt8:=[110,111,116]
def jR:List UInt8:=[110,111,116,105,99,101]
def qx:List UInt8:=[110,111,116,105,99,101,32]
def ahw:List UInt8:=[111,102]
def wL:List UInt8:=[111,114]
def uB:List UInt8:=[112,117,116]
def gG:List UInt8:=[115,107,105,112]
def qi:List UInt8:=[116,104,101,110]
def eA:List UInt8:=[116,114,117,101]
def lU:List UInt8:=[119,104,105,108,101]
def w_z:List UInt8:=[122]
end Go.Rip
namespace Go.Rip
open Go.Proofs
def Aa:List AV:=(List.range 256).map λc=>.int .u8 (if c=9\/c=10\/c=11\/c=12\/c=13\/c=32 then 1 else 0)
def AQ:List AV:=(List.range 20).map λc=>.int .u64 (10 ^ c:Nat)
noncomputable def K:dQ:=⟨Tryz.prog,λi=>if i=0 then .dJ Aa else if i=7 then .dJ AQ else .any,λi=>if i=7 then some (Lib.pow10Tab.map λz=>Value.int .u64 z).toArray else none⟩
def Lg:K.P.follows .mixedOrders:=by show Tryz.prog.follows .mixedOrders=true;kernel_rfl
end Go.Rip
set_option maxRecDepth 100000
namespace Go.Rip
open Go.Proofs Go.RowKit
noncomputable def DP:Code:=match Tryz.f98.body with|some (.seq _ c)=>c|_=>.skip
def aag:An:=.bk (.sq none (.rg [] [] none) (.cd (.rg [] [] none) (.sq none (.rg [] [] none) (.cd (.sq none (.rg [] [] none) (.rg [] [] (some ⟨[(true,0),(true,1),(false,2),(false,3),(false,4)],[⟨4096,16,0⟩,⟨8192,4096,1⟩,⟨0,1,0⟩,⟨0,8194,7⟩,⟨0,4,15⟩]⟩))) (.sq none (.rg [] [] none) (.rg [] [] none))))))
def Qt(a0 a1 a2 x:AV)(Rn:St->Prop)(U:St):Prop :=
 (bU .eql (BT.mk false true false none false) true x AV.eu).wp K U (λv8 U =>
 cX v8 (
  Rn U) (
  (zW (some (AV.agg [AV.int .i64 0])) x 136 true).wp K U (λv9 U =>
  (jt v9 1).wp K U (λv10 U =>
  (jt v9 0).wp K U (λv11 U =>
  cX v10 (
   (aW.mU [AV.int .i64 0]).wp K U (λv4 U =>
   (dD (some (true,1)) v4 v11 U).wp K U (λ_ U =>
   (λaj:St =>
   bC K (bu (some 0) v4) (λv12 =>
   bC K (bj (some (false,1)) v12 aj) (λsb =>
   (dD (some (false,1)) a0 AV.bE U).wp K U (λ_ U=>dR ((cB v12++[])++[]) aj U /\
   (dD (some (false,1)) a1 sb U).wp K U (λ_ U=>dR ((cB v12++[])++[]) aj U /\
   (dD (some (false,1)) a2 (AV.bool false) U).wp K U (λ_ U =>
   Rn U) (λ_ _=>False)) (λ_ _=>False)) (λ_ _=>False)))) U) (λ_ _=>False)) (λ_ _=>False)) (
   (yn x).wp K U (λ_ U =>
   Rn U) (λ_ _=>False))) (λ_ _=>False)) (λ_ _=>False)) (λ_ _=>False))) (λ_ _=>False)
variable {U:St}
def ahd{a0 a1 a2 x:AV}{Rn:St->Prop}(h:Qt a0 a1 a2 x Rn U):cu K 14 .bare DP (ac5 Rn) ((Env.mh [a0,a1,a2]).put 6 x) U:=by
 have h2:qj K DP aag ⟨λ_ U=>Rn U,λ_ _ _=>False,λ_ U=>Rn U,λ_ _=>False⟩ ((Env.mh [a0,a1,a2]).put 6 x) U :=
  Eq.mp (show Qt a0 a1 a2 x Rn U=qj K DP aag ⟨λ_ U=>Rn U,λ_ _ _=>False,λ_ U=>Rn U,λ_ _=>False⟩ ((Env.mh [a0,a1,a2]).put 6 x) U by kernel_rfl) h
 refine (D9 (nt:=14) Lg DP aag false .bare _ _ _ (by kernel_rfl) (λh=>by cases h) h2).mono λe ρ U he=>?_;cases e with
 | normal=>exact he
 | ret=>exact he
 | exit i=>exact he.elim
 | panic x=>exact he.elim
def St.eO.ne{q b:Nat}{l:List AV}(h:U.eO q)(hb:U.box b=some l):b≠q:=λe=>by
 subst e;obtain⟨y,this,_⟩:=St.xM hb;rw[h.1]at this;cases this
@[simp] theorem uO(U:St)(b y:Nat)(l:List AV):(U.set b (.box l)).box y=if y=b then some l else U.box y:=by
 simp only[St.box,St.set];by_cases h:y=b<;>simp[h]
@[simp] theorem H6(U:St)(b y:Nat)(l:List AV):(U.new b (.box l)).box y=if y=b then some l else U.box y:=by
 simp only[St.box,St.new];by_cases h:y=b<;>simp[h]
def afl{a0 a1 a2:AV}{Rn:St->Prop}(h:Rn U):Qt a0 a1 a2 .eu Rn U:=by
 show ((true->Rn U)/\_);exact⟨λ_=>h,λh=>by cases h⟩
def Vr{a b c:Nat}{at_:Int}{x y z:AV}{Rn:St->Prop}(ha:U.box a=some [x])(hb:U.box b=some [y])(hc:U.box c=some [z])
 (h:∀q,U.eO q->Rn ((((U.new q (.box [.int .i64 at_])).c7 a [.bE]).c7 b [.int .i64 at_]).c7 c [.bool false])):Qt (.box a 0) (.box b 0) (.box c 0) (.iface 136 (.agg [.int .i64 at_])) Rn U:=by
 have e1:(bU .eql (BT.mk false true false none false) true (.iface 136 (.agg [.int .i64 at_])) AV.eu)=.val (.bool false):=rfl;have e2:(zW (some (AV.agg [AV.int .i64 0])) (.iface 136 (.agg [.int .i64 at_])) 136 true)=.val (.az [.agg [.int .i64 at_],.bool true]):=rfl;simp only[Qt,e1,e2,ad,aG,aL,bN,List.drop_succ_cons,eR,eP,my];intro q hq;have qa:=hq.ne ha;have qb:=hq.ne hb;have qc:=hq.ne hc;have s1:(U.new q (.box [AV.int .i64 0])).box q=some [AV.int .i64 0]:=by simp
 simp only[NV.at];rw[pD s1];simp only[wp_cond,oH];refine⟨d8,?_⟩;simp only[aP,ao];have e3:(U.new q (.box [AV.int .i64 0])).set q (.box (ax [AV.int .i64 0] 0 (al (.agg [.int .i64 at_]))))=U.new q (.box [.int .i64 at_]):=by
  simp only[St.set,St.new,St.mk.injEq,and_true];funext y;split<;>rfl
 rw[e3];have s2:(U.new q (.box [AV.int .i64 at_])).box q=some [AV.int .i64 at_]:=by simp
 rw[yh s2];simp only[Nat.add_zero,eR,eP,ao];have s3:(U.new q (.box [AV.int .i64 at_])).box a=some [x]:=by rw[H6,if_neg qa];exact ha
 rw[pD s3];simp only[wp_cond,oH,dR,cB,iM,lT,forall_eq];refine⟨d8,by simp[St.set,Ne.symm qa],?_⟩;have s4:((U.new q (.box [AV.int .i64 at_])).set a (.box (ax [x] 0 (al .bE)))).box b=some [y]\/b=a:=by
  by_cases e:b=a
  . exact .inr e
  . left;rw[uO,if_neg e,H6,if_neg qb];exact hb
 have s4':∃y',((U.new q (.box [AV.int .i64 at_])).set a (.box (ax [x] 0 (al .bE)))).box b=some [y']:=by
  rcases s4 with s4|rfl
  . exact⟨_,s4⟩
  . exact⟨_,by rw[uO,if_pos rfl];rfl⟩
 obtain⟨y',s4⟩:=s4';rw[pD s4];simp only[wp_cond,oH];refine⟨d8,by simp[St.set,Ne.symm qa,Ne.symm qb],?_⟩;have s5':∃z',(((U.new q (.box [AV.int .i64 at_])).set a (.box (ax [x] 0 (al .bE)))).set b (.box (ax [y'] 0 (al (.int .i64 at_))))).box c=some [z']:=by
  rw[uO];split
  . exact⟨_,rfl⟩
  . rw[uO];split
    . exact⟨_,rfl⟩
    . rw[H6,if_neg qc];exact⟨_,hc⟩
 obtain⟨z',s5⟩:=s5';rw[pD s5];simp only[wp_cond,oH];exact⟨d8,h q hq⟩
end Go.Rip
set_option maxRecDepth 100000
namespace Go.Rip
open Go.Proofs Go.RowKit
noncomputable def U9:Array Oper:=match Tryz.f54.body with|some (.seq (.region _ o _) _)=>o|_=>#[]
noncomputable def wm:Array Oper:=match Tryz.f54.body with|some (.seq _ (.seq (.region _ o _) _))=>o|_=>#[]
noncomputable def lj:Array Oper:=match Tryz.f54.body with|some (.seq _ (.seq _ (.seq (.region _ o _) _)))=>o|_=>#[]
def af4:Tryz.f54.body=some (.seq (.region 0 U9 false) (.seq (.region 1 wm false) (.seq (.region 2 lj false) .ret))):=by kernel_rfl
def ae4:wm[0]?=some ⟨some 7,.makeFunc (.func 98) #[] #[.tmp 4,.tmp 5,.tmp 6],1,(wm.getD 0 default).pos,#[],none⟩:=by kernel_rfl
def ae5:wm[1]?=some ⟨none,.defer { callee:=.value (.tmp 7),args:=#[],argTypes:=#[] },0,(wm.getD 1 default).pos,#[⟨0,.data⟩],none⟩:=by kernel_rfl
def ae6:lj[0]?=some ⟨some 8,.move (.tmp 1),90,(lj.getD 0 default).pos,(lj.getD 0 default).after,none⟩:=by kernel_rfl
def ae7:lj[1]?=some ⟨some 9,.call { callee:=.value (.tmp 8),args:=#[],argTypes:=#[] },87,(lj.getD 1 default).pos,(lj.getD 1 default).after,none⟩:=by kernel_rfl
def ae8:lj[2]?=some ⟨none,.store 87 (.tmp 4) (.tmp 9),0,(lj.getD 2 default).pos,(lj.getD 2 default).after,none⟩:=by kernel_rfl
def ae9:lj[3]?=some ⟨none,.store 3 (.tmp 5) (.const (.int .i64 0)),0,(lj.getD 3 default).pos,(lj.getD 3 default).after,none⟩:=by kernel_rfl
def afa:lj[4]?=some ⟨none,.store 4 (.tmp 6) (.const (.bool true)),0,(lj.getD 4 default).pos,(lj.getD 4 default).after,none⟩:=by kernel_rfl
def aiP:List.range lj.size=[0,1,2,3,4]:=by kernel_rfl
def akG:qE K.P 87=some (false,1):=by kernel_rfl
def vT3:qE K.P 3=some (false,1):=by kernel_rfl
def vT4:qE K.P 4=some (false,1):=by kernel_rfl
def aiO:List.range wm.size=[0,1]:=by kernel_rfl
def OW{nt id:Nat}{ops:Array Oper}{Q:Qx}{ρ:Env}{U:St}(dG:nW nt ops)(h:zO K [] [] ops ops.toList ρ U Q.n Q.p):cu K nt .bare (.region id ops false) Q.q ρ U :=
 D9 (nt:=nt) Lg (.region id ops false) (.rg [] [] none) false .bare Q ρ U dG (λh=>by cases h) h
noncomputable def ag5:Oper:=match Tryz.f98.body with|some (.seq (.region _ o _) _)=>o.getD 0 default|_=>default
def Td:Tryz.f98.body=some (.seq (.region 0 #[⟨some 6,.call { callee:=.builtin .recover,args:=#[],argTypes:=#[] },20,ag5.pos,#[],none⟩] false) DP):=by kernel_rfl
def agY:(Tryz.f98.name == "runtime.NumGoroutine")=false:=by kernel_rfl
def abb(captured:Array Value)(w:World):(invoke (.fn (.func 98) captured) #[]).run K.P w=.ok (.enter 98 captured) w:=by
 have hfn:K.P.funcs[98]?=some Tryz.f98:=Tryz.func98
 have h1:Tryz.f98.name ≠ "runtime.NumGoroutine" := by simpa using agY
 simp[invoke,callFunc,hfn,h1,Td,Result.andThen,run_program]
def air(ev:Operand->Value)(w:World):(execOp ev ⟨some 6,.call { callee:=.builtin .recover,args:=#[],argTypes:=#[] },20,ag5.pos,#[],none⟩).run K.P w=.ok .recover w:=by
 simp[execOp,Go.resolve,invoke,builtin,Result.andThen]
def adn{g0 g:Gh}{U:St}{w:World}{ρ:Env}{tmps:Array Value}{a b c:Nat}{x y z:AV}{R:bi}(hle:Gh.Le g0 g)(hs:bT g U w)(hr:jO g ρ tmps)
 (h4:ρ.get 4=.box a 0) (h5:ρ.get 5=.box b 0) (h6:ρ.get 6=.box c 0) (ha:U.box a=some [x]) (hb:U.box b=some [y]) (hc:U.box c=some [z]) (hR:R (.ret (.az [x,y,z])) U) :
 LeavesInM Fence.wide 0 K.P Tryz.f54 tmps (rN g0 R) [] .returning w:=by
 have hk:zQ K.P ρ U Tryz.f54.results.toList λvs=>R (.ret (zU vs)) U:=by
  refine AT _ _ ?_;refine Eq.mp (show (fV (some (false,1)) (ρ.get 4) U λx=>fV (some (false,1)) (ρ.get 5) U λy=>fV (some (false,1)) (ρ.get 6) U λz=>R (.ret (.az [x,y,z])) U)=_ by kernel_rfl) ?_;rw[h4,h5,h6];simp only[fV,yh ha,yh hb,yh hc,eR,eP];exact hR
 obtain⟨v,xs,jY,hv,hk⟩:=Fu (a:={ tmps:=tmps,defers:=[] }) (fn:=Tryz.f54) hs hr hk;exact⟨v,jY,g,U,_,hle,hs,hv,hk⟩
def Gf:Pd K 136 54:=by
 intro r gf first cap U R xU h g w vs hs hG ha
 have hl:=ha.length;refine callsIn_of_wp_marks Tryz.func54 af4 trivial ?_;have Ij:=FD [r,.func (.func gf) first cap] vs (Tryz.f54.ntmps-vs.toArray.size) ha
 have Cs:Tryz.f54.ntmps=10:=by kernel_rfl
 have gj:(vs.toArray++Array.replicate (Tryz.f54.ntmps-vs.toArray.size) undef).size=10:=by rw[Cs];simp at hl ⊢;omega
 generalize vs.toArray++Array.replicate (Tryz.f54.ntmps-vs.toArray.size) undef=tm0 at Ij gj;have c0:cu K 10 .bare (.region 0 U9 false) (Qx.q ⟨λρ aa=>∃a b c,U.eO a/\(U.new a (.box [.bE])).eO b/\((U.new a (.box [.bE])).new b (.box [.int .i64 0])).eO c /\
  ρ=(((Env.mh [r,.func (.func gf) first cap]).put 4 (.box a 0)).put 5 (.box b 0)).put 6 (.box c 0)/\aa=(((U.new a (.box [.bE])).new b (.box [.int .i64 0])).new c (.box [.bool false])),λ_ _ _=>False,λ_ _=>False,λ_ _=>False⟩)
  (Env.mh [r,.func (.func gf) first cap]) U:=by
  refine OW (by kernel_rfl) ?_;refine Eq.mp (show (∀a,U.eO a->∀b,(U.new a (.box [.bE])).eO b->∀c,((U.new a (.box [.bE])).new b (.box [.int .i64 0])).eO c ->
   (λ(ρ:Env)(aa:St)=>∃a b c,U.eO a/\(U.new a (.box [.bE])).eO b/\((U.new a (.box [.bE])).new b (.box [.int .i64 0])).eO c /\
   ρ=(((Env.mh [r,.func (.func gf) first cap]).put 4 (.box a 0)).put 5 (.box b 0)).put 6 (.box c 0)/\aa=(((U.new a (.box [.bE])).new b (.box [.int .i64 0])).new c (.box [.bool false])))
    ((((Env.mh [r,.func (.func gf) first cap]).put 4 (.box a 0)).put 5 (.box b 0)).put 6 (.box c 0)) (((U.new a (.box [.bE])).new b (.box [.int .i64 0])).new c (.box [.bool false])))=_ by kernel_rfl) ?_
  exact λa ha b hb c hc=>⟨a,b,c,ha,hb,hc,rfl,rfl⟩
 refine wpIn_seq (wpIn_mono (c0 g w { tmps:=tm0,defers:=[] } none hs hG Ij gj trivial) ?_);rintro e a1 w1 ⟨n1,g1,aK,ρ1,ms,d1,m1,l1,s1,r1,q1⟩;have Da:ms=[]:=m1.none rfl;subst Da;simp only[mq,mQ]at d1;cases e<;>simp only[LK,Qx.q]at q1
 case panic=>obtain⟨_,_,_,_,hf⟩:=q1;exact hf.elim
 obtain⟨a,b,c,fa,fb,fc,rfl,rfl⟩:=q1;have hG1:=hG.mono l1;refine wpIn_seq (wpIn_region ?_);rw[aiO];simp only[wpOpsIn,ae4,ae5,Region.wanted,if_true];have h4:=r1 4;have h5:=r1 5;have h6:=r1 6;have h1:=r1 1;simp only[Env.put,Env.mh]at h4 h5 h6 h1;have h4:aB g1 (.box a 0) (a1.tmps.getD 4 undef):=h4;have h5:aB g1 (.box b 0) (a1.tmps.getD 5 undef):=h5;have h6:aB g1 (.box c 0) (a1.tmps.getD 6 undef):=h6;refine⟨λ_ _=>trivial,?_⟩;let fv:Value:=.func (.func 98) #[] #[a1.tmps.getD 4 undef,a1.tmps.getD 5 undef,a1.tmps.getD 6 undef];have hmk:(Oper.semAt Fence.wide.round a1.eval ⟨some 7,.makeFunc (.func 98) #[] #[.tmp 4,.tmp 5,.tmp 6],1,(wm.getD 0 default).pos,#[],none⟩).run K.P w1=.ok (.value fv) w1:=by
  simp[Oper.semAt,execOp,fv,Act.eval,Fence.wide,Instr.makeFunc,Result.andThen]
 rw[hmk,Oper.uponIn_value];have e7:(a1.put (some 7) fv).eval (.tmp 7)=fv:=by
  show (a1.tmps.setIfInBounds 7 fv).getD 7 undef=fv;simp[n1]
 refine⟨λ_ _=>trivial,?_⟩;have Mc:(Oper.semAt Fence.wide.round (a1.put (some 7) fv).eval ⟨none,.defer { callee:=.value (.tmp 7),args:=#[],argTypes:=#[] },0,(wm.getD 1 default).pos,#[⟨0,.data⟩],none⟩).run K.P w1
  = .ok (.defer { target:=.fn (.func 98) #[a1.tmps.getD 4 undef,a1.tmps.getD 5 undef,a1.tmps.getD 6 undef],args:=#[] }) w1:=by
  simp[Oper.semAt,execOp,Go.resolve,e7,Fence.wide,Deferred.ofValue,Result.andThen];simp[fv]
 rw[Mc,Oper.uponIn_defer];show (Code.seq (.region 2 lj false) .ret).wpIn _ _ _ _ _ _;let dd:Deferred:={ target:=.fn (.func 98) #[a1.tmps.getD 4 undef,a1.tmps.getD 5 undef,a1.tmps.getD 6 undef],args:=#[] };let a2:Act:={ tmps:=a1.tmps.setIfInBounds 7 fv,defers:=dd::a1.defers };show (Code.seq (.region 2 lj false) .ret).wpIn Fence.wide 0 K.P _ a2 w1;let uF:Env:=((((Env.mh [r,.func (.func gf) first cap]).put 4 (.box a 0)).put 5 (.box b 0)).put 6 (.box c 0)).put 7 .any
 have r2:jO g1 uF a2.tmps:=r1.put (by rw[n1];decide) (by simp only[aB]);let bG:St:=((U.new a (.box [.bE])).new b (.box [.int .i64 0])).new c (.box [.bool false]);have ab:a≠b:=λe=>by subst e;simp[St.eO,St.new]at fb
 have ac:a≠c:=λe=>by
  subst e;have:=fc.1;simp only[St.new,if_true]at this;split at this<;>cases this
 have bc:b≠c:=λe=>by subst e;simp[St.eO,St.new]at fc
 have n2:a2.tmps.size=10:=by show (a1.tmps.setIfInBounds 7 fv).size=10;simp[n1]
 have d2:a2.defers=[dd]:=by show dd::a1.defers=_;rw[d1]
 have g4':a2.tmps.getD 4 undef=a1.tmps.getD 4 undef:=by show (a1.tmps.setIfInBounds 7 fv).getD 4 undef=_;simp
 have g5':a2.tmps.getD 5 undef=a1.tmps.getD 5 undef:=by show (a1.tmps.setIfInBounds 7 fv).getD 5 undef=_;simp
 have g6':a2.tmps.getD 6 undef=a1.tmps.getD 6 undef:=by show (a1.tmps.setIfInBounds 7 fv).getD 6 undef=_;simp
 have deferred:∀{a3:Act}{g3:Gh}{cI:St}{w3:World}{x:AV}{v:Value}{u u':FrameMode}{Rn:St->Prop},Gh.Le g1 g3->a3.defers=[dd]->bT g3 cI w3->aB g3 x v->((u=.returning/\v=.nilIface/\u'=.returning)\/(u=.panicking [{ v,recovered:=false }]/\u'=.panicking [{ v,recovered:=true }])) ->
  Qt (.box a 0) (.box b 0) (.box c 0) x Rn cI->(∀g4 dc w4,Gh.Le g3 g4->bT g4 dc w4->Rn dc->LeavesInM Fence.wide 0 K.P Tryz.f54 a3.tmps (rN g R) [] (settle u') w4) ->
  LeavesInM Fence.wide 0 K.P Tryz.f54 a3.tmps (rN g R) a3.defers u w3:=by
  intro a3 g3 cI w3 x v u u' Rn l3 d3 s3 hx hu hr hk;rw[d3];simp only[LeavesInM];have ahU:aJ g3 [.box a 0,.box b 0,.box c 0] [a1.tmps.getD 4 undef,a1.tmps.getD 5 undef,a1.tmps.getD 6 undef]:=by
   simp only[aJ];exact⟨_,_,rfl,h4.mono l3,_,_,rfl,h5.mono l3,_,_,rfl,h6.mono l3,rfl⟩
  refine⟨by rcases hu with ⟨rfl,_⟩|⟨rfl,_⟩<;>simp,.inr ⟨λhd=>by simp[Fence.wide]at hd,.func 98,_,98,_,rfl,abb _ _,λ_ _=>trivial,?_⟩⟩
  have:=afo (C:=K) (f:=98) (fn:=Tryz.f98) (id:=0) (d:=6) (vs:=[a1.tmps.getD 4 undef,a1.tmps.getD 5 undef,a1.tmps.getD 6 undef]) (args:=[.box a 0,.box b 0,.box c 0]) (hf:=Tryz.func98) (hb:=Td) (hres:=by kernel_rfl) (hop:=air) (hd:=rfl) (hdn:=by decide +kernel) (hg:=rfl)
   (hlen:=Nat.le_of_ble_eq_true (n:=3) (m:=Tryz.f98.ntmps) (by kernel_rfl)) s3 (hG1.mono l3) ahU hx hu Rn (ahd hr)
  refine CallsDIn.mono this ?_;rintro e u2 w4 ⟨v',rfl,rfl,g4,dc,l4,s4,hn⟩;exact hk g4 dc w4 l4 s4 hn
 refine wpIn_seq (wpIn_region ?_);rw[aiP];simp only[wpOpsIn,ae6,ae7,ae8,ae9,afa,Region.wanted,if_true];refine tg (fr:=none) (C:=K) (nt:=10) (g:=g1) (U:=bG) (ρ:=uF) (mu:=false) (ds:=[]) (K:=λx s=>x=.func (.func gf) first cap/\s=bG) (Kp:=λ_ _=>False) (by rfl) s1 hG1 r2 n2 ?_ ?_ (λ_ _ _ _ _ _ _ _ hf=>hf.elim)
 . exact⟨rfl,rfl⟩
 rintro g2 aa w2 x v l2 s2 hx ⟨rfl,rfl⟩;have r3:jO g2 (uF.put 8 (.func (.func gf) first cap)) (a2.put (some 8) v).tmps:=(r2.mono l2).put (by rw[n2];decide) hx
 have n3:(a2.put (some 8) v).tmps.size=10:=by rw[(rn _ _ _).2];exact n2
 refine tg (fr:=none) (C:=K) (nt:=10) (g:=g2) (U:=bG) (ρ:=uF.put 8 (.func (.func gf) first cap)) (mu:=false) (ds:=[]) (K:=λx s=>NZ 136 a b c R (.ret x) s) (Kp:=λx s=>NZ 136 a b c R (.panic x) s) (by rfl) s2 (hG1.mono l2) r3 n3 ?_ ?_ ?_
 . show ((kQ K.P (.func (.func gf) first cap) []).wp K bG _ _)
   simp only[kQ,xU,if_true,nU,iM];refine (h a b c fa fb fc).mono λres aa hres=>?_;cases res<;>exact hres
 . rintro g3 cI w3 x v3 l3 s3 PW ⟨hsc,⟨xa,ba⟩,⟨xb,bb⟩,⟨xc,bcx⟩,hR⟩;have hcv:al x=[x]:=by cases x<;>first|rfl|cases hsc
   have pc:x.dC:=by cases x<;>first|rfl|cases hsc
   have r4:jO g3 ((uF.put 8 (.func (.func gf) first cap)).put 9 x) ((a2.put (some 8) v).put (some 9) v3).tmps:=(r3.mono l3).put (by rw[n3];decide) PW
   have n4:((a2.put (some 8) v).put (some 9) v3).tmps.size=10:=by rw[(rn _ _ _).2];exact n3
   have hG3:=hG1.mono (l2.trans l3);refine tg (fr:=none) (C:=K) (nt:=10) (g:=g3) (U:=cI) (ρ:=(uF.put 8 (.func (.func gf) first cap)).put 9 x) (mu:=false) (ds:=[]) (K:=λy s=>s=cI.c7 a [x]) (Kp:=λ_ _=>False) (by rfl) s3 hG3 r4 n4 ?_ ?_ (λ_ _ _ _ _ _ _ _ hf=>hf.elim)
   . rw[<-sL];show (dD (qE K.P 87) (.box a 0) x cI).wp K cI _ _;rw[akG,pD ba];simp only[wp_cond,oH,hcv];exact⟨⟨pc,rfl,d8⟩,rfl⟩
   rintro g4 _ w4 _ _ l4 s4 _ rfl;refine tg (fr:=none) (C:=K) (nt:=10) (g:=g4) (U:=cI.c7 a [x]) (ρ:=(uF.put 8 (.func (.func gf) first cap)).put 9 x) (mu:=false) (ds:=[]) (K:=λy s=>s=(cI.c7 a [x]).c7 b [.int .i64 0]) (Kp:=λ_ _=>False) (by rfl) s4 (hG3.mono l4) (r4.mono l4) n4 ?_ ?_ (λ_ _ _ _ _ _ _ _ hf=>hf.elim)
   . rw[<-sL];show (dD (qE K.P 3) (.box b 0) (.int .i64 0) (cI.c7 a [x])).wp K _ _ _;have:(cI.c7 a [x]).box b=some [xb]:=by simp only[St.c7];rw[uO,if_neg (Ne.symm ab)];exact bb
     rw[vT3,pD this];simp only[wp_cond,oH];exact⟨d8,rfl⟩
   rintro g5 _ w5 _ _ l5 s5 _ rfl;refine tg (fr:=none) (C:=K) (nt:=10) (g:=g5) (U:=(cI.c7 a [x]).c7 b [.int .i64 0]) (ρ:=(uF.put 8 (.func (.func gf) first cap)).put 9 x) (mu:=false) (ds:=[]) (K:=λy s=>s=((cI.c7 a [x]).c7 b [.int .i64 0]).c7 c [.bool true]) (Kp:=λ_ _=>False) (by rfl) s5 (hG3.mono (l4.trans l5)) (r4.mono (l4.trans l5)) n4 ?_ ?_ (λ_ _ _ _ _ _ _ _ hf=>hf.elim)
   . rw[<-sL];show (dD (qE K.P 4) (.box c 0) (.bool true) ((cI.c7 a [x]).c7 b [.int .i64 0])).wp K _ _ _;have:((cI.c7 a [x]).c7 b [.int .i64 0]).box c=some [xc]:=by simp only[St.c7];rw[uO,if_neg (Ne.symm bc),uO,if_neg (Ne.symm ac)];exact bcx
     rw[vT4,pD this];simp only[wp_cond,oH];exact⟨d8,rfl⟩
   rintro g6 _ w6 _ _ l6 s6 _ rfl;show Code.wpIn Fence.wide 0 K.P .ret _ _ _;refine wpIn_ret ?_;have l16:=l2.trans (l3.trans (l4.trans (l5.trans l6)));refine deferred (a3:=(a2.put (some 8) v).put (some 9) v3) (x:=.eu) (v:=.nilIface) (u:=.returning) (u':=.returning) (Rn:=λs=>s=((cI.c7 a [x]).c7 b [.int .i64 0]).c7 c [.bool true]) l16 d2 s6 (by simp only[aB]) (.inl ⟨rfl,rfl,rfl⟩) (afl rfl) ?_;rintro g7 gZ w7 l7 s7 rfl;exact adn (l1.trans (l16.trans l7)) s7 (r4.mono ((l4.trans (l5.trans l6)).trans l7)) rfl rfl rfl (by simp[St.c7,ac,ab]) (by simp[St.c7,bc]) (by simp[St.c7]) hR
 . rintro g3 cI w3 x v3 l3 s3 PW ⟨at_,rfl,⟨xa,ka⟩,⟨xb,kb⟩,⟨xc,kc⟩,hR⟩;show LeavesInM Fence.wide 0 K.P Tryz.f54 (a2.put (some 8) v).tmps (rN g R) (a2.put (some 8) v).defers _ w3;refine deferred (a3:=a2.put (some 8) v) (u:=.panicking [{ v:=v3,recovered:=false }]) (u':=.panicking [{ v:=v3,recovered:=true }]) (Rn:=λs=>∃q,cI.eO q/\s=((((cI.new q (.box [.int .i64 at_])).c7 a [.bE]).c7 b [.int .i64 at_]).c7 c [.bool false])) (l2.trans l3) d2 s3 PW (.inr ⟨rfl,rfl⟩) (Vr ka kb kc λq hq=>⟨q,hq,rfl⟩) ?_;rintro g4 dc w4 l4 s4 ⟨q,hq,rfl⟩;exact adn (l1.trans ((l2.trans l3).trans l4)) s4 ((r3.mono l3).mono l4) rfl rfl rfl (by simp[St.c7,ac,ab]) (by simp[St.c7,bc]) (by simp[St.c7]) (hR q hq)
end Go.Rip
namespace Go.Rip
open Go.Proofs
abbrev bF:An:=.rg [] [] none
abbrev aE(a b:An):An:=.sq none a b
abbrev aO(b:An):An:=.sq none (.rg [] [] none) b
abbrev aU:An:=aO .z
abbrev aM(a b:An):An:=aO (.cd a b)
abbrev cm(a:An):An:=aO (aO a)
abbrev btZ:BT:=BT.mk false false false none false
abbrev ny:Option (Bool×Nat):=some (false,1)
def br{f:FuncId}{args:List AV}{R:bi}{U:St}{P:Prop}(fn:Func)(an:An)(h:P)(h1:K.P.funcs[f]?=some fn:=by kernel_rfl)(h2:okF fn an args.length:=by kernel_rfl)(h3:P=Q5 K fn an args R U:=by kernel_rfl):ag K f args U R :=
 ag.ae2 Lg an h1 h2 (Eq.mp h3 h)
end Go.Rip
