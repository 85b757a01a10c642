/- Lemmas for the proof: no conditions. -/
import Derived.Test.YtnfpmiiopiinbaaGreatDoorRipZz
import Derived.KernelRfl
import Derived.Lib.LaidTab
import Derived.Lib.ItoaNum
import Derived.Test.YtnfpmiiopiinbaaGreatDoorProg
import Derived.Test.YtnfpmiiopiinbaaGreatDoorRipC
set_option linter.unusedVariables false
set_option linter.unusedSimpArgs false
set_option linter.loopingSimpArgs false
namespace Go.Rip
def w_:List UInt8:=[]
def sW:List UInt8:=[10]
def u7:List UInt8:=[32]
def mT:List UInt8:=[33]
def bK:List UInt8:=[40]
def bJ:List UInt8:=[41]
def u9:List UInt8:=[42]
def ub:List UInt8:=[43]
def cH:List UInt8:=[44]
def sX:List UInt8:=[45]
def fY:List UInt8:=[45,62]
def uc:List UInt8:=[46]
def dk:List UInt8:=[58]
def bQ:List UInt8:=[58,61]
def cC:List UInt8:=[59]
def ud:List UInt8:=[60]
def gP:List UInt8:=[61]
def eN:List UInt8:=[61,60,43,45,42,33,40,41,123,125,44,59,58,46]
def gQ:List UInt8:=[123]
def jJ:List UInt8:=[125]
def zM:List UInt8:=[97,110,100]
def uI:List UInt8:=[97,115]
def lP:List UInt8:=[98,111,111,108]
def ky:List UInt8:=[99,101,108,108]
def ia:List UInt8:=[99,104,111,111,115,101]
def pX:List UInt8:=[99,111,109]
def gg:List UInt8:=[100,101,102]
def sY:List UInt8:=[100,111]
def fe:List UInt8:=[101,108,115,101]
def dQ:List UInt8:=[101,120,112,111,114,116]
def dR:List UInt8:=[102,97,108,115,101]
def rO:List UInt8:=[102,110]
def va:List UInt8:=[103,101,116]
def ik:List UInt8:=[104,97,110,103]
def pg:List UInt8:=[105,102]
def dY:List UInt8:=[105,109,112,111,114,116]
def kr:List UInt8:=[105,110]
def gY:List UInt8:=[105,110,116]
def kz:List UInt8:=[106,117,109,112]
def jb:List UInt8:=[108,97,98,101,108]
def lY:List UInt8:=[110,101,119]
def qD:List UInt8:=[110,111,116]
def iU:List UInt8:=[110,111,116,105,99,101]
def aka:List UInt8:=[111,102]
def Ea:List UInt8:=[111,114]
def vb:List UInt8:=[112,117,116]
def fU:List UInt8:=[115,107,105,112]
def oL:List UInt8:=[116,104,101,110]
def dN:List UInt8:=[116,114,117,101]
def gH:List UInt8:=[119,104,105,108,101]
end Go.Rip
namespace Go.Rip
open Go.Proofs
def xL:List AV:=(List.range 256).map λ c=>.int .u8 (if c=9\/c=10\/c=11\/c=12\/c=13\/c=32 then 1 else 0)
def ym:List AV:=(List.range 20).map λ c=>.int .u64 (10 ^ c:Nat)
noncomputable def K:de:=⟨Tryz.prog,λ i=>if i=0 then .da xL else if i=7 then .da ym else .any,λ i=>if i=7 then some (Lib.pow10Tab.map λ z=>Value.int .u64 z).toArray else none⟩
theorem GZ:K.P.follows .mixedOrders=true:=by show Tryz.prog.follows .mixedOrders=true; kernel_rfl
end Go.Rip
set_option maxRecDepth 100000
namespace Go.Rip
open Go.Proofs Go.RowKit
noncomputable def BE:Code:=match Tryz.f98.body with|some (.seq _ c)=>c|_=>.skip
def Wy:An:=.bk (.sq none (.rg [] [] none) (.cd (.rg [] [] none) (.sq none (.rg [] [] none) (.cd (.sq none (.rg [] [] none) (.rg [] [] (some ⟨[(true,0),(true,1),(false,2),(false,3),(false,4)],[⟨4096,16,0⟩,⟨8192,4096,1⟩,⟨0,1,0⟩,⟨0,8194,7⟩,⟨0,4,15⟩]⟩))) (.sq none (.rg [] [] none) (.rg [] [] none))))))
def OT (a0 a1 a2 x:AV) (Rn:St->Prop) (U:St):Prop :=
 (aw .eql (BT.mk false true false none false) true x AV.dE).wp K U (λ v8 U =>
 ax v8 (
  Rn U) (
  (xF (some (AV.agg [AV.int .i64 0])) x 136 true).wp K U (λ v9 U =>
  (aU v9 1).wp K U (λ v10 U =>
  (aU v9 0).wp K U (λ v11 U =>
  ax v10 (
   (aC.cL [AV.int .i64 0]).wp K U (λ v4 U =>
   (aI (some (true,1)) v4 v11 U).wp K U (λ _ U =>
   (λ ar:St =>
   az K (af (some 0) v4) (λ v12 =>
   az K (ak (some (false,1)) v12 ar) (λ cn =>
   (aI (some (false,1)) a0 AV.a8 U).wp K U (λ _ U=>df ((eE v12++[])++[]) ar U /\
   (aI (some (false,1)) a1 cn U).wp K U (λ _ U=>df ((eE v12++[])++[]) ar U /\
   (aI (some (false,1)) a2 (AV.bool false) U).wp K U (λ _ U =>
   Rn U) (λ _ _=>False)) (λ _ _=>False)) (λ _ _=>False)))) U) (λ _ _=>False)) (λ _ _=>False)) (
   (vP x).wp K U (λ _ U =>
   Rn U) (λ _ _=>False))) (λ _ _=>False)) (λ _ _=>False)) (λ _ _=>False))) (λ _ _=>False)
theorem afd {a0 a1 a2 x:AV} {Rn:St->Prop} {U:St} (h:OT a0 a1 a2 x Rn U):bL K 14 .bare BE (Zj Rn) ((Env.kX [a0,a1,a2]).put 6 x) U:=by
 have h2:pw K BE Wy ⟨λ _ U=>Rn U,λ _ _ _=>False,λ _ U=>Rn U,λ _ _=>False⟩ ((Env.kX [a0,a1,a2]).put 6 x) U :=
  Eq.mp (show OT a0 a1 a2 x Rn U=pw K BE Wy ⟨λ _ U=>Rn U,λ _ _ _=>False,λ _ U=>Rn U,λ _ _=>False⟩ ((Env.kX [a0,a1,a2]).put 6 x) U by kernel_rfl) h
 refine (BW (nt:=14) GZ BE Wy false .bare _ _ _ (by kernel_rfl) (λ h=>by cases h) h2).mono λ e ρ U he=>?_;cases e with
 | normal=>exact he
 | ret=>exact he
 | exit i=>exact he.elim
 | panic x=>exact he.elim
theorem St.dL.ne {U:St} {q b:Nat} {l:List AV} (h:U.dL q) (hb:U.box b=some l):b≠q:=λ e=>by
 subst e;obtain⟨y,this,_⟩:=St.vu hb;rw[h.1]at this; cases this
@[simp] theorem tj (U:St) (b y:Nat) (l:List AV):(U.set b (.box l)).box y=if y=b then some l else U.box y:=by
 simp only[St.box,St.set]; by_cases h:y=b<;>simp[h]
@[simp] theorem F5 (U:St) (b y:Nat) (l:List AV):(U.new b (.box l)).box y=if y=b then some l else U.box y:=by
 simp only[St.box,St.new]; by_cases h:y=b<;>simp[h]
theorem ab9 {a0 a1 a2:AV} {Rn:St->Prop} {U:St} (h:Rn U):OT a0 a1 a2 .dE Rn U:=by
 show ((true=true->Rn U)/\_);exact⟨λ _=>h,λ h=>by cases h⟩
theorem TN {a b c:Nat} {at_:Int} {x y z:AV} {Rn:St->Prop} {U:St} (ha:U.box a=some [x]) (hb:U.box b=some [y]) (hc:U.box c=some [z])
 (h:∀ q,U.dL q->Rn ((((U.new q (.box [.int .i64 at_])).cx a [.a8]).cx b [.int .i64 at_]).cx c [.bool false])):OT (.box a 0) (.box b 0) (.box c 0) (.iface 136 (.agg [.int .i64 at_])) Rn U:=by
 have e1:(aw .eql (BT.mk false true false none false) true (.iface 136 (.agg [.int .i64 at_])) AV.dE)=.val (.bool false):=rfl;have e2:(xF (some (AV.agg [AV.int .i64 0])) (.iface 136 (.agg [.int .i64 at_])) 136 true)=.val (.aK [.agg [.int .i64 at_],.bool true]):=rfl;simp only[OT,e1,e2,al,bq,bH,bp,List.drop_succ_cons,eG,dT,lR];intro q hq;have qa:=hq.ne ha;have qb:=hq.ne hb;have qc:=hq.ne hc;have s1:(U.new q (.box [AV.int .i64 0])).box q=some [AV.int .i64 0]:=by simp
 simp only[NV.at];rw[oS s1];simp only[wp_cond,nD];refine⟨by simp,?_⟩;simp only[bh,aJ];have e3:(U.new q (.box [AV.int .i64 0])).set q (.box (ay [AV.int .i64 0] 0 (av (.agg [.int .i64 at_]))))=U.new q (.box [.int .i64 at_]):=by
  simp only[St.set,St.new,St.mk.injEq,and_true];funext y;split<;>rfl
 rw[e3];have s2:(U.new q (.box [AV.int .i64 at_])).box q=some [AV.int .i64 at_]:=by simp
 rw[vK s2];simp only[Nat.add_zero,eG,dT,aJ];have s3:(U.new q (.box [AV.int .i64 at_])).box a=some [x]:=by rw[F5,if_neg qa]; exact ha
 rw[oS s3];simp only[wp_cond,nD,df,eE,gx,kn,forall_eq];refine⟨by simp,by simp[St.set,Ne.symm qa],?_⟩;have s4:((U.new q (.box [AV.int .i64 at_])).set a (.box (ay [x] 0 (av .a8)))).box b=some [y]\/b=a:=by
  by_cases e:b=a
  . exact .inr e
  . left; rw[tj,if_neg e,F5,if_neg qb]; exact hb
 have s4':∃ y',((U.new q (.box [AV.int .i64 at_])).set a (.box (ay [x] 0 (av .a8)))).box b=some [y']:=by
  rcases s4 with s4|rfl
  . exact⟨_,s4⟩
  . exact⟨_,by rw[tj,if_pos rfl]; rfl⟩
 obtain⟨y',s4⟩:=s4';rw[oS s4];simp only[wp_cond,nD];refine⟨by simp,by simp[St.set,Ne.symm qa,Ne.symm qb],?_⟩;have s5':∃ z',(((U.new q (.box [AV.int .i64 at_])).set a (.box (ay [x] 0 (av .a8)))).set b (.box (ay [y'] 0 (av (.int .i64 at_))))).box c=some [z']:=by
  rw[tj];split
  . exact⟨_,rfl⟩
  . rw[tj];split
    . exact⟨_,rfl⟩
    . rw[F5,if_neg qc]; exact⟨_,hc⟩
 obtain⟨z',s5⟩:=s5';rw[oS s5];simp only[wp_cond,nD];exact⟨by simp,h q hq⟩
end Go.Rip
set_option maxRecDepth 100000
namespace Go.Rip
open Go.Proofs Go.RowKit
noncomputable def Tz:Array Oper:=match Tryz.f54.body with|some (.seq (.region _ o _) _)=>o|_=>#[]
noncomputable def uq:Array Oper:=match Tryz.f54.body with|some (.seq _ (.seq (.region _ o _) _))=>o|_=>#[]
noncomputable def jY:Array Oper:=match Tryz.f54.body with|some (.seq _ (.seq _ (.seq (.region _ o _) _)))=>o|_=>#[]
theorem ad2:Tryz.f54.body=some (.seq (.region 0 Tz false) (.seq (.region 1 uq false) (.seq (.region 2 jY false) .ret))):=by kernel_rfl
theorem abP:uq[0]?=some ⟨some 7,.makeFunc (.func 98) #[] #[.tmp 4,.tmp 5,.tmp 6],1,(uq.getD 0 default).pos,#[],none⟩:=by kernel_rfl
theorem abQ:uq[1]?=some ⟨none,.defer { callee:=.value (.tmp 7),args:=#[],argTypes:=#[] },0,(uq.getD 1 default).pos,#[⟨0,.data⟩],none⟩:=by kernel_rfl
theorem abR:jY[0]?=some ⟨some 8,.move (.tmp 1),90,(jY.getD 0 default).pos,(jY.getD 0 default).after,none⟩:=by kernel_rfl
theorem abS:jY[1]?=some ⟨some 9,.call { callee:=.value (.tmp 8),args:=#[],argTypes:=#[] },87,(jY.getD 1 default).pos,(jY.getD 1 default).after,none⟩:=by kernel_rfl
theorem abT:jY[2]?=some ⟨none,.store 87 (.tmp 4) (.tmp 9),0,(jY.getD 2 default).pos,(jY.getD 2 default).after,none⟩:=by kernel_rfl
theorem abU:jY[3]?=some ⟨none,.store 3 (.tmp 5) (.const (.int .i64 0)),0,(jY.getD 3 default).pos,(jY.getD 3 default).after,none⟩:=by kernel_rfl
theorem abV:jY[4]?=some ⟨none,.store 4 (.tmp 6) (.const (.bool true)),0,(jY.getD 4 default).pos,(jY.getD 4 default).after,none⟩:=by kernel_rfl
theorem ahy:List.range jY.size=[0,1,2,3,4]:=by kernel_rfl
theorem aj8:pJ K.P 87=some (false,1):=by kernel_rfl
theorem vT3:pJ K.P 3=some (false,1):=by kernel_rfl
theorem vT4:pJ K.P 4=some (false,1):=by kernel_rfl
theorem ahx:List.range uq.size=[0,1]:=by kernel_rfl
theorem Nh {nt id:Nat} {ops:Array Oper} {Q:Qx} {ρ:Env} {U:St} (cS:mP nt ops=true) (h:xv K [] [] ops ops.toList ρ U Q.n Q.p):bL K nt .bare (.region id ops false) Q.q ρ U :=
 BW (nt:=nt) GZ (.region id ops false) (.rg [] [] none) false .bare Q ρ U cS (λ h=>by cases h) h
noncomputable def ae3:Oper:=match Tryz.f98.body with|some (.seq (.region _ o _) _)=>o.getD 0 default|_=>default
theorem RD:Tryz.f98.body=some (.seq (.region 0 #[⟨some 6,.call { callee:=.builtin .recover,args:=#[],argTypes:=#[] },20,ae3.pos,#[],none⟩] false) BE):=by kernel_rfl
theorem aeZ:(Tryz.f98.name == "runtime.NumGoroutine")=false:=by kernel_rfl
theorem Xz (captured:Array Value) (w:World):(invoke (.fn (.func 98) captured) #[]).run K.P w=.ok (.enter 98 captured) w:=by
 have hfn:K.P.funcs[98]?=some Tryz.f98:=Tryz.func98
 have h1:Tryz.f98.name ≠ "runtime.NumGoroutine" := by simpa using aeZ
 simp[invoke,callFunc,hfn,h1,RD,Result.andThen,run_program]
theorem ahh (ev:Operand->Value) (w:World):(execOp ev ⟨some 6,.call { callee:=.builtin .recover,args:=#[],argTypes:=#[] },20,ae3.pos,#[],none⟩).run K.P w=.ok .recover w:=by
 simp[execOp,Go.resolve,invoke,builtin,Result.andThen]
theorem aad {g0 g:Gh} {U:St} {w:World} {ρ:Env} {tmps:Array Value} {a b c:Nat} {x y z:AV} {R:cV->St->Prop} (hle:Gh.Le g0 g) (hs:bw g U w) (hr:iQ g ρ tmps)
 (h4:ρ.get 4=.box a 0) (h5:ρ.get 5=.box b 0) (h6:ρ.get 6=.box c 0) (ha:U.box a=some [x]) (hb:U.box b=some [y]) (hc:U.box c=some [z]) (hR:R (.ret (.aK [x,y,z])) U) :
 LeavesInM Fence.wide 0 K.P Tryz.f54 tmps (qz g0 R) [] .returning w:=by
 have hk:xy K.P ρ U Tryz.f54.results.toList λ vs=>R (.ret (xD vs)) U:=by
  refine yo _ _ ?_;refine Eq.mp (show (bD (some (false,1)) (ρ.get 4) U λ x=>bD (some (false,1)) (ρ.get 5) U λ y=>bD (some (false,1)) (ρ.get 6) U λ z=>R (.ret (.aK [x,y,z])) U)=_ by kernel_rfl) ?_;rw[h4,h5,h6];simp only[bD,vK ha,vK hb,vK hc,eG,dT];exact hR
 obtain⟨v,xs,je,hv,hk⟩:=Df (a:={ tmps:=tmps,defers:=[] }) (fn:=Tryz.f54) hs hr hk;exact⟨v,je,g,U,_,hle,hs,hv,hk⟩
theorem D5:Nr K 136 54:=by
 intro r gf first cap U R vG h g w vs hs hG ha
 have hl:=ha.length;refine callsIn_of_wp_marks Tryz.func54 ad2 trivial ?_;have Gg:=Dp [r,.func (.func gf) first cap] vs (Tryz.f54.ntmps-vs.toArray.size) ha
 have Ab:Tryz.f54.ntmps=10:=by kernel_rfl
 have fH:(vs.toArray++Array.replicate (Tryz.f54.ntmps-vs.toArray.size) undef).size=10:=by rw[Ab]; simp at hl ⊢; omega
 generalize vs.toArray++Array.replicate (Tryz.f54.ntmps-vs.toArray.size) undef=tm0 at Gg fH;have c0:bL K 10 .bare (.region 0 Tz false) (Qx.q ⟨λ ρ ad=>∃ a b c,U.dL a/\(U.new a (.box [.a8])).dL b/\((U.new a (.box [.a8])).new b (.box [.int .i64 0])).dL c /\
  ρ=(((Env.kX [r,.func (.func gf) first cap]).put 4 (.box a 0)).put 5 (.box b 0)).put 6 (.box c 0)/\ad=(((U.new a (.box [.a8])).new b (.box [.int .i64 0])).new c (.box [.bool false])),λ _ _ _=>False,λ _ _=>False,λ _ _=>False⟩)
  (Env.kX [r,.func (.func gf) first cap]) U:=by
  refine Nh (by kernel_rfl) ?_;refine Eq.mp (show (∀ a,U.dL a->∀ b,(U.new a (.box [.a8])).dL b->∀ c,((U.new a (.box [.a8])).new b (.box [.int .i64 0])).dL c ->
   (λ (ρ:Env) (ad:St)=>∃ a b c,U.dL a/\(U.new a (.box [.a8])).dL b/\((U.new a (.box [.a8])).new b (.box [.int .i64 0])).dL c /\
   ρ=(((Env.kX [r,.func (.func gf) first cap]).put 4 (.box a 0)).put 5 (.box b 0)).put 6 (.box c 0)/\ad=(((U.new a (.box [.a8])).new b (.box [.int .i64 0])).new c (.box [.bool false])))
    ((((Env.kX [r,.func (.func gf) first cap]).put 4 (.box a 0)).put 5 (.box b 0)).put 6 (.box c 0)) (((U.new a (.box [.a8])).new b (.box [.int .i64 0])).new c (.box [.bool false])))=_ by kernel_rfl) ?_
  exact λ a ha b hb c hc=>⟨a,b,c,ha,hb,hc,rfl,rfl⟩
 refine wpIn_seq (wpIn_mono (c0 g w { tmps:=tm0,defers:=[] } none hs hG Gg fH trivial) ?_);rintro e a1 w1 ⟨n1,g1,aS,ρ1,ms,d1,m1,l1,s1,r1,q1⟩;have AZ:ms=[]:=m1.none rfl;subst AZ;simp only[oB,eH]at d1;cases e<;>simp only[J6,Qx.q]at q1
 case panic=>obtain⟨_,_,_,_,hf⟩:=q1; exact hf.elim
 obtain⟨a,b,c,fa,fb,fc,rfl,rfl⟩:=q1;have Zp:=hG.mono l1;refine wpIn_seq (wpIn_region ?_);rw[ahx];simp only[wpOpsIn,abP,abQ,Region.wanted,if_true];have h4:=r1 4; have h5:=r1 5; have h6:=r1 6; have h1:=r1 1;simp only[Env.put,Env.kX]at h4 h5 h6 h1;have h4:aA g1 (.box a 0) (a1.tmps.getD 4 undef):=h4;have h5:aA g1 (.box b 0) (a1.tmps.getD 5 undef):=h5;have h6:aA g1 (.box c 0) (a1.tmps.getD 6 undef):=h6;refine⟨λ _ _=>trivial,?_⟩;let fv:Value:=.func (.func 98) #[] #[a1.tmps.getD 4 undef,a1.tmps.getD 5 undef,a1.tmps.getD 6 undef];have hmk:(Oper.semAt Fence.wide.round a1.eval ⟨some 7,.makeFunc (.func 98) #[] #[.tmp 4,.tmp 5,.tmp 6],1,(uq.getD 0 default).pos,#[],none⟩).run K.P w1=.ok (.value fv) w1:=by
  simp[Oper.semAt,execOp,fv,Act.eval,Fence.wide,Instr.makeFunc,Result.andThen]
 rw[hmk,Oper.uponIn_value];have e7:(a1.put (some 7) fv).eval (.tmp 7)=fv:=by
  show (a1.tmps.setIfInBounds 7 fv).getD 7 undef=fv;simp[n1]
 refine⟨λ _ _=>trivial,?_⟩;have Ko:(Oper.semAt Fence.wide.round (a1.put (some 7) fv).eval ⟨none,.defer { callee:=.value (.tmp 7),args:=#[],argTypes:=#[] },0,(uq.getD 1 default).pos,#[⟨0,.data⟩],none⟩).run K.P w1
  = .ok (.defer { target:=.fn (.func 98) #[a1.tmps.getD 4 undef,a1.tmps.getD 5 undef,a1.tmps.getD 6 undef],args:=#[] }) w1:=by
  simp[Oper.semAt,execOp,Go.resolve,e7,Fence.wide,Deferred.ofValue,Result.andThen]; simp[fv]
 rw[Ko,Oper.uponIn_defer];show (Code.seq (.region 2 jY false) .ret).wpIn _ _ _ _ _ _;let dd:Deferred:={ target:=.fn (.func 98) #[a1.tmps.getD 4 undef,a1.tmps.getD 5 undef,a1.tmps.getD 6 undef],args:=#[] };let a2:Act:={ tmps:=a1.tmps.setIfInBounds 7 fv,defers:=dd::a1.defers };show (Code.seq (.region 2 jY false) .ret).wpIn Fence.wide 0 K.P _ a2 w1;let s0:Env:=((((Env.kX [r,.func (.func gf) first cap]).put 4 (.box a 0)).put 5 (.box b 0)).put 6 (.box c 0)).put 7 .any
 have r2:iQ g1 s0 a2.tmps:=r1.put (by rw[n1]; decide) (by simp only[aA]);let bR:St:=((U.new a (.box [.a8])).new b (.box [.int .i64 0])).new c (.box [.bool false]);have ab:a≠b:=λ e=>by subst e; simp[St.dL,St.new]at fb
 have ac:a≠c:=λ e=>by
  subst e;have:=fc.1;simp only[St.new,if_true]at this;split at this<;>cases this
 have bc:b≠c:=λ e=>by subst e; simp[St.dL,St.new]at fc
 have n2:a2.tmps.size=10:=by show (a1.tmps.setIfInBounds 7 fv).size=10; simp[n1]
 have d2:a2.defers=[dd]:=by show dd::a1.defers=_; rw[d1]
 have g4':a2.tmps.getD 4 undef=a1.tmps.getD 4 undef:=by show (a1.tmps.setIfInBounds 7 fv).getD 4 undef=_; simp
 have g5':a2.tmps.getD 5 undef=a1.tmps.getD 5 undef:=by show (a1.tmps.setIfInBounds 7 fv).getD 5 undef=_; simp
 have g6':a2.tmps.getD 6 undef=a1.tmps.getD 6 undef:=by show (a1.tmps.setIfInBounds 7 fv).getD 6 undef=_; simp
 have deferred:∀ {a3:Act} {g3:Gh} {cP:St} {w3:World} {x:AV} {v:Value} {u u':FrameMode} {Rn:St->Prop},Gh.Le g1 g3->a3.defers=[dd]->bw g3 cP w3->aA g3 x v->((u=.returning/\v=.nilIface/\u'=.returning)\/(u=.panicking [{ v,recovered:=false }]/\u'=.panicking [{ v,recovered:=true }])) ->
  OT (.box a 0) (.box b 0) (.box c 0) x Rn cP->(∀ g4 du w4,Gh.Le g3 g4->bw g4 du w4->Rn du->LeavesInM Fence.wide 0 K.P Tryz.f54 a3.tmps (qz g R) [] (settle u') w4) ->
  LeavesInM Fence.wide 0 K.P Tryz.f54 a3.tmps (qz g R) a3.defers u w3:=by
  intro a3 g3 cP w3 x v u u' Rn l3 d3 s3 hx hu hr hk;rw[d3];simp only[LeavesInM];have agL:aH g3 [.box a 0,.box b 0,.box c 0] [a1.tmps.getD 4 undef,a1.tmps.getD 5 undef,a1.tmps.getD 6 undef]:=by
   simp only[aH];exact⟨_,_,rfl,h4.mono l3,_,_,rfl,h5.mono l3,_,_,rfl,h6.mono l3,rfl⟩
  refine⟨by rcases hu with ⟨rfl,_⟩|⟨rfl,_⟩<;>simp,.inr ⟨λ hd=>by simp[Fence.wide]at hd,.func 98,_,98,_,rfl,Xz _ _,λ _ _=>trivial,?_⟩⟩
  have:=acb (C:=K) (f:=98) (fn:=Tryz.f98) (id:=0) (d:=6) (vs:=[a1.tmps.getD 4 undef,a1.tmps.getD 5 undef,a1.tmps.getD 6 undef]) (args:=[.box a 0,.box b 0,.box c 0]) (hf:=Tryz.func98) (hb:=RD) (hres:=by kernel_rfl) (hop:=ahh) (hd:=rfl) (hdn:=by decide +kernel) (hg:=rfl)
   (hlen:=Nat.le_of_ble_eq_true (n:=3) (m:=Tryz.f98.ntmps) (by kernel_rfl)) s3 (Zp.mono l3) agL hx hu Rn (afd hr)
  refine CallsDIn.mono this ?_;rintro e u2 w4 ⟨v',rfl,rfl,g4,du,l4,s4,hn⟩;exact hk g4 du w4 l4 s4 hn
 refine wpIn_seq (wpIn_region ?_);rw[ahy];simp only[wpOpsIn,abR,abS,abT,abU,abV,Region.wanted,if_true];refine rJ (fr:=none) (C:=K) (nt:=10) (g:=g1) (U:=bR) (ρ:=s0) (mu:=false) (ds:=[]) (K:=λ x s=>x=.func (.func gf) first cap/\s=bR) (Kp:=λ _ _=>False) (by rfl) s1 Zp r2 n2 ?_ ?_ (λ _ _ _ _ _ _ _ _ hf=>hf.elim)
 . exact⟨rfl,rfl⟩
 rintro g2 ad w2 x v l2 s2 hx ⟨rfl,rfl⟩;have r3:iQ g2 (s0.put 8 (.func (.func gf) first cap)) (a2.put (some 8) v).tmps:=(r2.mono l2).put (by rw[n2]; decide) hx
 have n3:(a2.put (some 8) v).tmps.size=10:=by rw[(qe _ _ _).2]; exact n2
 refine rJ (fr:=none) (C:=K) (nt:=10) (g:=g2) (U:=bR) (ρ:=s0.put 8 (.func (.func gf) first cap)) (mu:=false) (ds:=[]) (K:=λ x s=>Ml 136 a b c R (.ret x) s) (Kp:=λ x s=>Ml 136 a b c R (.panic x) s) (by rfl) s2 (Zp.mono l2) r3 n3 ?_ ?_ ?_
 . show ((jz K.P (.func (.func gf) first cap) []).wp K bR _ _)
   simp only[jz,vG,if_true,mL,gx];refine (h a b c fa fb fc).mono λ res ad hres=>?_;cases res<;>exact hres
 . rintro g3 cP w3 x v3 l3 s3 KP ⟨ZR,⟨xa,ba⟩,⟨xb,bb⟩,⟨xc,bcx⟩,hR⟩;have Sq:av x=[x]:=by cases x<;>first|rfl|cases ZR
   have pQ:x.dw=true:=by cases x<;>first|rfl|cases ZR
   have r4:iQ g3 ((s0.put 8 (.func (.func gf) first cap)).put 9 x) ((a2.put (some 8) v).put (some 9) v3).tmps:=(r3.mono l3).put (by rw[n3]; decide) KP
   have n4:((a2.put (some 8) v).put (some 9) v3).tmps.size=10:=by rw[(qe _ _ _).2]; exact n3
   have hG3:=Zp.mono (l2.trans l3);refine rJ (fr:=none) (C:=K) (nt:=10) (g:=g3) (U:=cP) (ρ:=(s0.put 8 (.func (.func gf) first cap)).put 9 x) (mu:=false) (ds:=[]) (K:=λ y s=>s=cP.cx a [x]) (Kp:=λ _ _=>False) (by rfl) s3 hG3 r4 n4 ?_ ?_ (λ _ _ _ _ _ _ _ _ hf=>hf.elim)
   . rw[<- rh];show (aI (pJ K.P 87) (.box a 0) x cP).wp K cP _ _;rw[aj8,oS ba];simp only[wp_cond,nD,Sq];exact⟨⟨pQ,rfl,by simp⟩,rfl⟩
   rintro g4 _ w4 _ _ l4 s4 _ rfl;refine rJ (fr:=none) (C:=K) (nt:=10) (g:=g4) (U:=cP.cx a [x]) (ρ:=(s0.put 8 (.func (.func gf) first cap)).put 9 x) (mu:=false) (ds:=[]) (K:=λ y s=>s=(cP.cx a [x]).cx b [.int .i64 0]) (Kp:=λ _ _=>False) (by rfl) s4 (hG3.mono l4) (r4.mono l4) n4 ?_ ?_ (λ _ _ _ _ _ _ _ _ hf=>hf.elim)
   . rw[<- rh];show (aI (pJ K.P 3) (.box b 0) (.int .i64 0) (cP.cx a [x])).wp K _ _ _;have:(cP.cx a [x]).box b=some [xb]:=by simp only[St.cx]; rw[tj,if_neg (Ne.symm ab)]; exact bb
     rw[vT3,oS this];simp only[wp_cond,nD];exact⟨by simp,rfl⟩
   rintro g5 _ w5 _ _ l5 s5 _ rfl;refine rJ (fr:=none) (C:=K) (nt:=10) (g:=g5) (U:=(cP.cx a [x]).cx b [.int .i64 0]) (ρ:=(s0.put 8 (.func (.func gf) first cap)).put 9 x) (mu:=false) (ds:=[]) (K:=λ y s=>s=((cP.cx a [x]).cx b [.int .i64 0]).cx c [.bool true]) (Kp:=λ _ _=>False) (by rfl) s5 (hG3.mono (l4.trans l5)) (r4.mono (l4.trans l5)) n4 ?_ ?_ (λ _ _ _ _ _ _ _ _ hf=>hf.elim)
   . rw[<- rh];show (aI (pJ K.P 4) (.box c 0) (.bool true) ((cP.cx a [x]).cx b [.int .i64 0])).wp K _ _ _;have:((cP.cx a [x]).cx b [.int .i64 0]).box c=some [xc]:=by simp only[St.cx]; rw[tj,if_neg (Ne.symm bc),tj,if_neg (Ne.symm ac)]; exact bcx
     rw[vT4,oS this];simp only[wp_cond,nD];exact⟨by simp,rfl⟩
   rintro g6 _ w6 _ _ l6 s6 _ rfl;show Code.wpIn Fence.wide 0 K.P .ret _ _ _;refine wpIn_ret ?_;have l16:=l2.trans (l3.trans (l4.trans (l5.trans l6)));refine deferred (a3:=(a2.put (some 8) v).put (some 9) v3) (x:=.dE) (v:=.nilIface) (u:=.returning) (u':=.returning) (Rn:=λ s=>s=((cP.cx a [x]).cx b [.int .i64 0]).cx c [.bool true]) l16 d2 s6 (by simp only[aA]) (.inl ⟨rfl,rfl,rfl⟩) (ab9 rfl) ?_;rintro g7 jk w7 l7 s7 rfl;exact aad (l1.trans (l16.trans l7)) s7 (r4.mono ((l4.trans (l5.trans l6)).trans l7)) rfl rfl rfl (by simp[St.cx,ac,ab]) (by simp[St.cx,bc]) (by simp[St.cx]) hR
 . rintro g3 cP w3 x v3 l3 s3 KP ⟨at_,rfl,⟨xa,ka⟩,⟨xb,kb⟩,⟨xc,kc⟩,hR⟩;show LeavesInM Fence.wide 0 K.P Tryz.f54 (a2.put (some 8) v).tmps (qz g R) (a2.put (some 8) v).defers _ w3;refine deferred (a3:=a2.put (some 8) v) (u:=.panicking [{ v:=v3,recovered:=false }]) (u':=.panicking [{ v:=v3,recovered:=true }]) (Rn:=λ s=>∃ q,cP.dL q/\s=((((cP.new q (.box [.int .i64 at_])).cx a [.a8]).cx b [.int .i64 at_]).cx c [.bool false])) (l2.trans l3) d2 s3 KP (.inr ⟨rfl,rfl⟩) (TN ka kb kc λ q hq=>⟨q,hq,rfl⟩) ?_;rintro g4 du w4 l4 s4 ⟨q,hq,rfl⟩;exact aad (l1.trans ((l2.trans l3).trans l4)) s4 ((r3.mono l3).mono l4) rfl rfl rfl (by simp[St.cx,ac,ab]) (by simp[St.cx,bc]) (by simp[St.cx]) (hR q hq)
end Go.Rip
namespace Go.Rip
open Go.Proofs
abbrev cW:An:=.rg [] [] none
abbrev a7 (a b:An):An:=.sq none a b
abbrev aj (b:An):An:=.sq none (.rg [] [] none) b
abbrev aR:BT:=BT.mk false false false none false
abbrev aF:Option (Bool×Nat):=some (false,1)
theorem bS {f:FuncId} {args:List AV} {R:cV->St->Prop} {U:St} {P:Prop} (fn:Func) (an:An) (h:P) (h1:K.P.funcs[f]?=some fn:=by kernel_rfl) (h2:okF fn an args.length=true:=by kernel_rfl) (h3:P=I9 K fn an args R U:=by kernel_rfl):ae K f args U R :=
 ae.OH GZ an h1 h2 (Eq.mp h3 h)
end Go.Rip
