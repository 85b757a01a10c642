/- Lemmas for the proof: no conditions. -/
import Derived.Test.YtnfpmiiopiinbaaGreatDoorRipZz
import Derived.KernelRfl
import Derived.Lib.LaidTab
import Derived.Lib.ItoaNum
import Derived.Test.YtnfpmiiopiinbaaGreatDoorProg
import Derived.Test.YtnfpmiiopiinbaaGreatDoorRipC
set_option linter.unusedVariables false
set_option linter.unusedSimpArgs false
set_option linter.loopingSimpArgs false
namespace Go.Rip
def w_:List UInt8:=[]
def rN:List UInt8:=[10]
def lZ:List UInt8:=[33]
def cB:List UInt8:=[40]
def cg:List UInt8:=[41]
def tT:List UInt8:=[42]
def sN:List UInt8:=[43]
def cw:List UInt8:=[44]
def rO:List UInt8:=[45]
def fF:List UInt8:=[45,62]
def tU:List UInt8:=[46]
def cW:List UInt8:=[58]
def bL:List UInt8:=[58,61]
def cn:List UInt8:=[59]
def sO:List UInt8:=[60]
def gk:List UInt8:=[61]
def et:List UInt8:=[61,60,43,45,42,33,40,41,123,125,44,59,58,46]
def nf:List UInt8:=[123]
def qq:List UInt8:=[125]
def yD:List UInt8:=[97,110,100]
def tu:List UInt8:=[97,115]
def kT:List UInt8:=[98,111,111,108]
def jR:List UInt8:=[99,101,108,108]
def gH:List UInt8:=[99,104,111,111,115,101]
def pb:List UInt8:=[99,111,109]
def fH:List UInt8:=[100,101,102]
def rP:List UInt8:=[100,111]
def eG:List UInt8:=[101,108,115,101]
def dz:List UInt8:=[101,120,112,111,114,116]
def dB:List UInt8:=[102,97,108,115,101]
def qF:List UInt8:=[102,110]
def vI:List UInt8:=[103,101,116]
def gK:List UInt8:=[104,97,110,103]
def ox:List UInt8:=[105,102]
def dI:List UInt8:=[105,109,112,111,114,116]
def jJ:List UInt8:=[105,110]
def gy:List UInt8:=[105,110,116]
def jS:List UInt8:=[106,117,109,112]
def il:List UInt8:=[108,97,98,101,108]
def lh:List UInt8:=[110,101,119]
def pK:List UInt8:=[110,111,116]
def ig:List UInt8:=[110,111,116,105,99,101]
def agz:List UInt8:=[111,102]
def CA:List UInt8:=[111,114]
def vJ:List UInt8:=[112,117,116]
def fB:List UInt8:=[115,107,105,112]
def nP:List UInt8:=[116,104,101,110]
def dy:List UInt8:=[116,114,117,101]
def fX:List UInt8:=[119,104,105,108,101]
end Go.Rip
namespace Go.Rip
open Go.Proofs
def wq:List AV:=(List.range 256).map fun c=>.int .u8 (if c=9\/c=10\/c=11\/c=12\/c=13\/c=32 then 1 else 0)
def xe:List AV:=(List.range 20).map fun c=>.int .u64 (10 ^ c:Nat)
noncomputable def K:cS:=⟨Tryz.prog,fun i=>if i=0 then .cQ wq else if i=7 then .cQ xe else .any,fun i=>if i=7 then some (Lib.pow10Tab.map fun z=>Value.int .u64 z).toArray else none⟩
theorem Hk:K.P.follows .mixedOrders=true:=by show Tryz.prog.follows .mixedOrders=true; kernel_rfl
end Go.Rip
set_option maxRecDepth 100000
namespace Go.Rip
open Go.Proofs Go.RowKit
noncomputable def Aa:Code:=match Tryz.f98.body with | some (.seq _ c)=>c | _=>.skip
def TE:An:=.bk (.sq none (.rg [] [] none) (.cd (.rg [] [] none) (.sq none (.rg [] [] none) (.cd (.sq none (.rg [] [] none) (.rg [] [] (some ⟨[(true,0),(true,1),(false,2),(false,3),(false,4)],[⟨4096,16,0⟩,⟨8192,4096,1⟩,⟨0,1,0⟩,⟨0,8194,7⟩,⟨0,4,15⟩]⟩))) (.sq none (.rg [] [] none) (.rg [] [] none))))))
def Md (a0 a1 a2 x:AV) (Rn:St->Prop) (U:St):Prop :=
 (aw .eql (BT.mk false true false none false) true x AV.dq).wp K U (fun v8 U =>
 av v8 (
  Rn U) (
  (wj (some (AV.agg [AV.int .i64 0])) x 136 true).wp K U (fun v9 U =>
  (aX v9 1).wp K U (fun v10 U =>
  (aX v9 0).wp K U (fun v11 U =>
  av v10 (
   (aC.db [AV.int .i64 0]).wp K U (fun v4 U =>
   (aI (some (true,1)) v4 v11 U).wp K U (fun _ U =>
   (fun au:St =>
   aB K (af (some 0) v4) (fun v12 =>
   aB K (ak (some (false,1)) v12 au) (fun cz =>
   (aI (some (false,1)) a0 AV.aW U).wp K U (fun _ U=>da ((eM v12++[])++[]) au U /\
   (aI (some (false,1)) a1 cz U).wp K U (fun _ U=>da ((eM v12++[])++[]) au U /\
   (aI (some (false,1)) a2 (AV.bool false) U).wp K U (fun _ U =>
   Rn U) (fun _ _=>False)) (fun _ _=>False)) (fun _ _=>False)))) U) (fun _ _=>False)) (fun _ _=>False)) (
   (uG x).wp K U (fun _ U =>
   Rn U) (fun _ _=>False))) (fun _ _=>False)) (fun _ _=>False)) (fun _ _=>False))) (fun _ _=>False)
theorem abS {a0 a1 a2 x:AV} {Rn:St->Prop} {U:St} (h:Md a0 a1 a2 x Rn U):bH K 14 .bare Aa (Wg Rn) ((Env.km [a0,a1,a2]).put 6 x) U:=by
 have h2:oI K Aa TE ⟨fun _ U=>Rn U,fun _ _ _=>False,fun _ U=>Rn U,fun _ _=>False⟩ ((Env.km [a0,a1,a2]).put 6 x) U :=
  Eq.mp (show Md a0 a1 a2 x Rn U=oI K Aa TE ⟨fun _ U=>Rn U,fun _ _ _=>False,fun _ U=>Rn U,fun _ _=>False⟩ ((Env.km [a0,a1,a2]).put 6 x) U by kernel_rfl) h
 refine (Ao (nt:=14) Hk Aa TE false .bare _ _ _ (by kernel_rfl) (fun h=>by cases h) h2).mono fun e ρ U he=>?_
 cases e with
 | normal=>exact he
 | ret=>exact he
 | exit i=>exact he.elim
 | panic x=>exact he.elim
theorem St.dA.ne {U:St} {q b:Nat} {l:List AV} (h:U.dA q) (hb:U.box b=some l):b ≠ q:=fun e=>by
 subst e
 obtain ⟨y,this,_⟩:=St.uf hb
 rw [h.1] at this; cases this
@[simp] theorem sa (U:St) (b y:Nat) (l:List AV):(U.set b (.box l)).box y=if y=b then some l else U.box y:=by
 simp only [St.box,St.set]; by_cases h:y=b <;> simp [h]
@[simp] theorem Ed (U:St) (b y:Nat) (l:List AV):(U.new b (.box l)).box y=if y=b then some l else U.box y:=by
 simp only [St.box,St.new]; by_cases h:y=b <;> simp [h]
theorem Y0 {a0 a1 a2:AV} {Rn:St->Prop} {U:St} (h:Rn U):Md a0 a1 a2 .dq Rn U:=by
 show ((true=true->Rn U)/\_)
 exact ⟨fun _=>h,fun h=>by cases h⟩
theorem QP {a b c:Nat} {at_:Int} {x y z:AV} {Rn:St->Prop} {U:St} (ha:U.box a=some [x]) (hb:U.box b=some [y]) (hc:U.box c=some [z])
 (h:∀ q,U.dA q->Rn ((((U.new q (.box [.int .i64 at_])).bZ a [.aW]).bZ b [.int .i64 at_]).bZ c [.bool false])):Md (.box a 0) (.box b 0) (.box c 0) (.iface 136 (.agg [.int .i64 at_])) Rn U:=by
 have e1:(aw .eql (BT.mk false true false none false) true (.iface 136 (.agg [.int .i64 at_])) AV.dq)=.val (.bool false):=rfl
 have e2:(wj (some (AV.agg [AV.int .i64 0])) (.iface 136 (.agg [.int .i64 at_])) 136 true)=.val (.aH [.agg [.int .i64 at_],.bool true]):=rfl
 simp only [Md,e1,e2,aj,bp,bG,bD,List.drop_succ_cons,eD,dF,kV]
 intro q hq
 have qa:=hq.ne ha
 have qb:=hq.ne hb
 have qc:=hq.ne hc
 have s1:(U.new q (.box [AV.int .i64 0])).box q=some [AV.int .i64 0]:=by simp
 simp only [NV.at]
 rw [nW s1]
 simp only [wp_cond,mF]
 refine ⟨by simp,?_⟩
 simp only [aZ,aJ]
 have e3:(U.new q (.box [AV.int .i64 0])).set q (.box (aA [AV.int .i64 0] 0 (ax (.agg [.int .i64 at_]))))=U.new q (.box [.int .i64 at_]):=by
  simp only [St.set,St.new,St.mk.injEq,and_true]
  funext y
  split <;> rfl
 rw [e3]
 have s2:(U.new q (.box [AV.int .i64 at_])).box q=some [AV.int .i64 at_]:=by simp
 rw [uB s2]
 simp only [Nat.add_zero,eD,dF,aJ]
 have s3:(U.new q (.box [AV.int .i64 at_])).box a=some [x]:=by rw [Ed,if_neg qa]; exact ha
 rw [nW s3]
 simp only [wp_cond,mF,da,eM,gD,jX,forall_eq]
 refine ⟨by simp,by simp [St.set,Ne.symm qa],?_⟩
 have s4:((U.new q (.box [AV.int .i64 at_])).set a (.box (aA [x] 0 (ax .aW)))).box b=some [y]\/b=a:=by
  by_cases e:b=a
  . exact .inr e
  . left; rw [sa,if_neg e,Ed,if_neg qb]; exact hb
 have s4':∃ y',((U.new q (.box [AV.int .i64 at_])).set a (.box (aA [x] 0 (ax .aW)))).box b=some [y']:=by
  rcases s4 with s4 | rfl
  . exact ⟨_,s4⟩
  . exact ⟨_,by rw [sa,if_pos rfl]; rfl⟩
 obtain ⟨y',s4⟩:=s4'
 rw [nW s4]
 simp only [wp_cond,mF]
 refine ⟨by simp,by simp [St.set,Ne.symm qa,Ne.symm qb],?_⟩
 have s5':∃ z',(((U.new q (.box [AV.int .i64 at_])).set a (.box (aA [x] 0 (ax .aW)))).set b (.box (aA [y'] 0 (ax (.int .i64 at_))))).box c=some [z']:=by
  rw [sa]
  split
  . exact ⟨_,rfl⟩
  . rw [sa]
    split
    . exact ⟨_,rfl⟩
    . rw [Ed,if_neg qc]; exact ⟨_,hc⟩
 obtain ⟨z',s5⟩:=s5'
 rw [nW s5]
 simp only [wp_cond,mF]
 exact ⟨by simp,h q hq⟩
end Go.Rip
set_option maxRecDepth 100000
namespace Go.Rip
open Go.Proofs Go.RowKit
noncomputable def QD:Array Oper:=match Tryz.f54.body with | some (.seq (.region _ o _) _)=>o | _=>#[]
noncomputable def sZ:Array Oper:=match Tryz.f54.body with | some (.seq _ (.seq (.region _ o _) _))=>o | _=>#[]
noncomputable def jv:Array Oper:=match Tryz.f54.body with | some (.seq _ (.seq _ (.seq (.region _ o _) _)))=>o | _=>#[]
theorem aaO:Tryz.f54.body=some (.seq (.region 0 QD false) (.seq (.region 1 sZ false) (.seq (.region 2 jv false) .ret))):=by kernel_rfl
theorem YI:sZ[0]?=some ⟨some 7,.makeFunc (.func 98) #[] #[.tmp 4,.tmp 5,.tmp 6],1,(sZ.getD 0 default).pos,#[],none⟩:=by kernel_rfl
theorem YJ:sZ[1]?=some ⟨none,.defer { callee:=.value (.tmp 7),args:=#[],argTypes:=#[] },0,(sZ.getD 1 default).pos,#[⟨0,.data⟩],none⟩:=by kernel_rfl
theorem YK:jv[0]?=some ⟨some 8,.move (.tmp 1),90,(jv.getD 0 default).pos,(jv.getD 0 default).after,none⟩:=by kernel_rfl
theorem YL:jv[1]?=some ⟨some 9,.call { callee:=.value (.tmp 8),args:=#[],argTypes:=#[] },87,(jv.getD 1 default).pos,(jv.getD 1 default).after,none⟩:=by kernel_rfl
theorem YM:jv[2]?=some ⟨none,.store 87 (.tmp 4) (.tmp 9),0,(jv.getD 2 default).pos,(jv.getD 2 default).after,none⟩:=by kernel_rfl
theorem YN:jv[3]?=some ⟨none,.store 3 (.tmp 5) (.const (.int .i64 0)),0,(jv.getD 3 default).pos,(jv.getD 3 default).after,none⟩:=by kernel_rfl
theorem YO:jv[4]?=some ⟨none,.store 4 (.tmp 6) (.const (.bool true)),0,(jv.getD 4 default).pos,(jv.getD 4 default).after,none⟩:=by kernel_rfl
theorem aef:List.range jv.size=[0,1,2,3,4]:=by kernel_rfl
theorem agy:oY K.P 87=some (false,1):=by kernel_rfl
theorem vT3:oY K.P 3=some (false,1):=by kernel_rfl
theorem vT4:oY K.P 4=some (false,1):=by kernel_rfl
theorem aee:List.range sZ.size=[0,1]:=by kernel_rfl
theorem KI {nt id:Nat} {ops:Array Oper} {Q:Qx} {ρ:Env} {U:St} (cO:lW nt ops=true) (h:vZ K [] [] ops ops.toList ρ U Q.n Q.p):bH K nt .bare (.region id ops false) Q.q ρ U :=
 Ao (nt:=nt) Hk (.region id ops false) (.rg [] [] none) false .bare Q ρ U cO (fun h=>by cases h) h
noncomputable def abJ:Oper:=match Tryz.f98.body with | some (.seq (.region _ o _) _)=>o.getD 0 default | _=>default
theorem OJ:Tryz.f98.body=some (.seq (.region 0 #[⟨some 6,.call { callee:=.builtin .recover,args:=#[],argTypes:=#[] },20,abJ.pos,#[],none⟩] false) Aa):=by kernel_rfl
theorem abH:(Tryz.f98.name == "runtime.NumGoroutine")=false:=by kernel_rfl
theorem UK (captured:Array Value) (w:World):(invoke (.fn (.func 98) captured) #[]).run K.P w=.ok (.enter 98 captured) w:=by
 have hfn:K.P.funcs[98]?=some Tryz.f98:=Tryz.func98
 have h1:Tryz.f98.name ≠ "runtime.NumGoroutine" := by simpa using abH
 simp [invoke,callFunc,hfn,h1,OJ,Result.andThen,run_program]
theorem adZ (ev:Operand->Value) (w:World):(execOp ev ⟨some 6,.call { callee:=.builtin .recover,args:=#[],argTypes:=#[] },20,abJ.pos,#[],none⟩).run K.P w=.ok .recover w:=by
 simp [execOp,Go.resolve,invoke,builtin,Result.andThen]
theorem Xd {g0 g:Gh} {U:St} {w:World} {ρ:Env} {tmps:Array Value} {a b c:Nat} {x y z:AV} {R:cY->St->Prop} (hle:Gh.Le g0 g) (hs:bo g U w) (hr:ia g ρ tmps)
 (h4:ρ.get 4=.box a 0) (h5:ρ.get 5=.box b 0) (h6:ρ.get 6=.box c 0) (ha:U.box a=some [x]) (hb:U.box b=some [y]) (hc:U.box c=some [z]) (hR:R (.ret (.aH [x,y,z])) U) :
 LeavesInM Fence.wide 0 K.P Tryz.f54 tmps (pH g0 R) [] .returning w:=by
 have hk:we K.P ρ U Tryz.f54.results.toList fun vs=>R (.ret (wh vs)) U:=by
  refine xf _ _ ?_
  refine Eq.mp (show (bF (some (false,1)) (ρ.get 4) U fun x=>bF (some (false,1)) (ρ.get 5) U fun y=>bF (some (false,1)) (ρ.get 6) U fun z=>R (.ret (.aH [x,y,z])) U)=_ by kernel_rfl) ?_
  rw [h4,h5,h6]
  simp only [bF,uB ha,uB hb,uB hc,eD,dF]
  exact hR
 obtain ⟨v,xs,ix,hv,hk⟩:=BI (a:={ tmps:=tmps,defers:=[] }) (fn:=Tryz.f54) hs hr hk
 exact ⟨v,ix,g,U,_,hle,hs,hv,hk⟩
theorem Cw:KU K 136 54:=by
 intro r gf first cap U R uq h g w vs hs hG ha
 have hl:=ha.length
 refine callsIn_of_wp_marks Tryz.func54 aaO trivial ?_
 have El:=BV [r,.func (.func gf) first cap] vs (Tryz.f54.ntmps - vs.toArray.size) ha
 have yS:Tryz.f54.ntmps=10:=by kernel_rfl
 have fh:(vs.toArray++Array.replicate (Tryz.f54.ntmps - vs.toArray.size) undef).size=10:=by rw [yS]; simp at hl ⊢; omega
 generalize vs.toArray++Array.replicate (Tryz.f54.ntmps - vs.toArray.size) undef=tm0 at El fh
 have c0:bH K 10 .bare (.region 0 QD false) (Qx.q ⟨fun ρ ad=>∃ a b c,U.dA a/\(U.new a (.box [.aW])).dA b/\((U.new a (.box [.aW])).new b (.box [.int .i64 0])).dA c /\
  ρ=(((Env.km [r,.func (.func gf) first cap]).put 4 (.box a 0)).put 5 (.box b 0)).put 6 (.box c 0)/\ad=(((U.new a (.box [.aW])).new b (.box [.int .i64 0])).new c (.box [.bool false])),fun _ _ _=>False,fun _ _=>False,fun _ _=>False⟩)
  (Env.km [r,.func (.func gf) first cap]) U:=by
  refine KI (by kernel_rfl) ?_
  refine Eq.mp (show (∀ a,U.dA a->∀ b,(U.new a (.box [.aW])).dA b->∀ c,((U.new a (.box [.aW])).new b (.box [.int .i64 0])).dA c ->
   (fun (ρ:Env) (ad:St)=>∃ a b c,U.dA a/\(U.new a (.box [.aW])).dA b/\((U.new a (.box [.aW])).new b (.box [.int .i64 0])).dA c /\
   ρ=(((Env.km [r,.func (.func gf) first cap]).put 4 (.box a 0)).put 5 (.box b 0)).put 6 (.box c 0)/\ad=(((U.new a (.box [.aW])).new b (.box [.int .i64 0])).new c (.box [.bool false])))
    ((((Env.km [r,.func (.func gf) first cap]).put 4 (.box a 0)).put 5 (.box b 0)).put 6 (.box c 0)) (((U.new a (.box [.aW])).new b (.box [.int .i64 0])).new c (.box [.bool false])))=_ by kernel_rfl) ?_
  exact fun a ha b hb c hc=>⟨a,b,c,ha,hb,hc,rfl,rfl⟩
 refine wpIn_seq (wpIn_mono (c0 g w { tmps:=tm0,defers:=[] } none hs hG El fh trivial) ?_)
 rintro e a1 w1 ⟨n1,g1,aR,ρ1,ms,d1,m1,l1,s1,r1,q1⟩
 have zy:ms=[]:=m1.none rfl
 subst zy
 simp only [nF,jY] at d1
 cases e <;> simp only [HO,Qx.q] at q1
 case panic=>obtain ⟨_,_,_,_,hf⟩:=q1; exact hf.elim
 obtain ⟨a,b,c,fa,fb,fc,rfl,rfl⟩:=q1
 have Wl:=hG.mono l1
 refine wpIn_seq (wpIn_region ?_)
 rw [aee]
 simp only [wpOpsIn,YI,YJ,Region.wanted,if_true]
 have h4:=r1 4; have h5:=r1 5; have h6:=r1 6; have h1:=r1 1
 simp only [Env.put,Env.km] at h4 h5 h6 h1
 have h4:ay g1 (.box a 0) (a1.tmps.getD 4 undef):=h4
 have h5:ay g1 (.box b 0) (a1.tmps.getD 5 undef):=h5
 have h6:ay g1 (.box c 0) (a1.tmps.getD 6 undef):=h6
 refine ⟨fun _ _=>trivial,?_⟩
 let fv:Value:=.func (.func 98) #[] #[a1.tmps.getD 4 undef,a1.tmps.getD 5 undef,a1.tmps.getD 6 undef]
 have hmk:(Oper.semAt Fence.wide.round a1.eval ⟨some 7,.makeFunc (.func 98) #[] #[.tmp 4,.tmp 5,.tmp 6],1,(sZ.getD 0 default).pos,#[],none⟩).run K.P w1=.ok (.value fv) w1:=by
  simp [Oper.semAt,execOp,fv,Act.eval,Fence.wide,Instr.makeFunc,Result.andThen]
 rw [hmk,Oper.uponIn_value]
 have e7:(a1.put (some 7) fv).eval (.tmp 7)=fv:=by
  show (a1.tmps.setIfInBounds 7 fv).getD 7 undef=fv
  simp [n1]
 refine ⟨fun _ _=>trivial,?_⟩
 have Ic:(Oper.semAt Fence.wide.round (a1.put (some 7) fv).eval ⟨none,.defer { callee:=.value (.tmp 7),args:=#[],argTypes:=#[] },0,(sZ.getD 1 default).pos,#[⟨0,.data⟩],none⟩).run K.P w1
  = .ok (.defer { target:=.fn (.func 98) #[a1.tmps.getD 4 undef,a1.tmps.getD 5 undef,a1.tmps.getD 6 undef],args:=#[] }) w1:=by
  simp [Oper.semAt,execOp,Go.resolve,e7,Fence.wide,Deferred.ofValue,Result.andThen]; simp [fv]
 rw [Ic,Oper.uponIn_defer]
 show (Code.seq (.region 2 jv false) .ret).wpIn _ _ _ _ _ _
 let dd:Deferred:={ target:=.fn (.func 98) #[a1.tmps.getD 4 undef,a1.tmps.getD 5 undef,a1.tmps.getD 6 undef],args:=#[] }
 let a2:Act:={ tmps:=a1.tmps.setIfInBounds 7 fv,defers:=dd::a1.defers }
 show (Code.seq (.region 2 jv false) .ret).wpIn Fence.wide 0 K.P _ a2 w1
 let rR:Env:=((((Env.km [r,.func (.func gf) first cap]).put 4 (.box a 0)).put 5 (.box b 0)).put 6 (.box c 0)).put 7 .any
 have r2:ia g1 rR a2.tmps:=r1.put (by rw [n1]; decide) (by simp only [ay])
 let bW:St:=((U.new a (.box [.aW])).new b (.box [.int .i64 0])).new c (.box [.bool false])
 have ab:a ≠ b:=fun e=>by subst e; simp [St.dA,St.new] at fb
 have ac:a ≠ c:=fun e=>by
  subst e
  have:=fc.1
  simp only [St.new,if_true] at this
  split at this <;> cases this
 have bc:b ≠ c:=fun e=>by subst e; simp [St.dA,St.new] at fc
 have n2:a2.tmps.size=10:=by show (a1.tmps.setIfInBounds 7 fv).size=10; simp [n1]
 have d2:a2.defers=[dd]:=by show dd::a1.defers=_; rw [d1]
 have g4':a2.tmps.getD 4 undef=a1.tmps.getD 4 undef:=by show (a1.tmps.setIfInBounds 7 fv).getD 4 undef=_; simp
 have g5':a2.tmps.getD 5 undef=a1.tmps.getD 5 undef:=by show (a1.tmps.setIfInBounds 7 fv).getD 5 undef=_; simp
 have g6':a2.tmps.getD 6 undef=a1.tmps.getD 6 undef:=by show (a1.tmps.setIfInBounds 7 fv).getD 6 undef=_; simp
 have deferred:∀ {a3:Act} {g3:Gh} {cN:St} {w3:World} {x:AV} {v:Value} {u u':FrameMode} {Rn:St->Prop},Gh.Le g1 g3->a3.defers=[dd]->bo g3 cN w3->ay g3 x v->((u=.returning/\v=.nilIface/\u'=.returning)\/(u=.panicking [{ v,recovered:=false }]/\u'=.panicking [{ v,recovered:=true }])) ->
  Md (.box a 0) (.box b 0) (.box c 0) x Rn cN->(∀ g4 dv w4,Gh.Le g3 g4->bo g4 dv w4->Rn dv->LeavesInM Fence.wide 0 K.P Tryz.f54 a3.tmps (pH g R) [] (settle u') w4) ->
  LeavesInM Fence.wide 0 K.P Tryz.f54 a3.tmps (pH g R) a3.defers u w3:=by
  intro a3 g3 cN w3 x v u u' Rn l3 d3 s3 hx hu hr hk
  rw [d3]
  simp only [LeavesInM]
  have adt:aD g3 [.box a 0,.box b 0,.box c 0] [a1.tmps.getD 4 undef,a1.tmps.getD 5 undef,a1.tmps.getD 6 undef]:=by
   simp only [aD]
   exact ⟨_,_,rfl,h4.mono l3,_,_,rfl,h5.mono l3,_,_,rfl,h6.mono l3,rfl⟩
  refine ⟨by rcases hu with ⟨rfl,_⟩ | ⟨rfl,_⟩ <;> simp,.inr ⟨fun hd=>by simp [Fence.wide] at hd,.func 98,_,98,_,rfl,UK _ _,fun _ _=>trivial,?_⟩⟩
  have:=Y2 (C:=K) (f:=98) (fn:=Tryz.f98) (id:=0) (d:=6) (vs:=[a1.tmps.getD 4 undef,a1.tmps.getD 5 undef,a1.tmps.getD 6 undef]) (args:=[.box a 0,.box b 0,.box c 0]) (hf:=Tryz.func98) (hb:=OJ) (hres:=by kernel_rfl) (hop:=adZ) (hd:=rfl) (hdn:=by decide +kernel) (hg:=rfl)
   (hlen:=Nat.le_of_ble_eq_true (n:=3) (m:=Tryz.f98.ntmps) (by kernel_rfl)) s3 (Wl.mono l3) adt hx hu Rn (abS hr)
  refine CallsDIn.mono this ?_
  rintro e u2 w4 ⟨v',rfl,rfl,g4,dv,l4,s4,hn⟩
  exact hk g4 dv w4 l4 s4 hn
 refine wpIn_seq (wpIn_region ?_)
 rw [aef]
 simp only [wpOpsIn,YK,YL,YM,YN,YO,Region.wanted,if_true]
 refine qC (fr:=none) (C:=K) (nt:=10) (g:=g1) (U:=bW) (ρ:=rR) (mu:=false) (ds:=[]) (K:=fun x s=>x=.func (.func gf) first cap/\s=bW) (Kp:=fun _ _=>False) (by rfl) s1 Wl r2 n2 ?_ ?_ (fun _ _ _ _ _ _ _ _ hf=>hf.elim)
 . exact ⟨rfl,rfl⟩
 rintro g2 ad w2 x v l2 s2 hx ⟨rfl,rfl⟩
 have r3:ia g2 (rR.put 8 (.func (.func gf) first cap)) (a2.put (some 8) v).tmps:=(r2.mono l2).put (by rw [n2]; decide) hx
 have n3:(a2.put (some 8) v).tmps.size=10:=by rw [(pn _ _ _).2]; exact n2
 refine qC (fr:=none) (C:=K) (nt:=10) (g:=g2) (U:=bW) (ρ:=rR.put 8 (.func (.func gf) first cap)) (mu:=false) (ds:=[]) (K:=fun x s=>JU 136 a b c R (.ret x) s) (Kp:=fun x s=>JU 136 a b c R (.panic x) s) (by rfl) s2 (Wl.mono l2) r3 n3 ?_ ?_ ?_
 . show ((jk K.P (.func (.func gf) first cap) []).wp K bW _ _)
   simp only [jk,uq,if_true,lR,gD]
   refine (h a b c fa fb fc).mono fun res ad hres=>?_
   cases res <;> exact hres
 . rintro g3 cN w3 x v3 l3 s3 IG ⟨WO,⟨xa,ba⟩,⟨xb,bb⟩,⟨xc,bcx⟩,hR⟩
   have Wq:ax x=[x]:=by cases x <;> first | rfl | cases WO
   have o6:x.dh=true:=by cases x <;> first | rfl | cases WO
   have r4:ia g3 ((rR.put 8 (.func (.func gf) first cap)).put 9 x) ((a2.put (some 8) v).put (some 9) v3).tmps:=(r3.mono l3).put (by rw [n3]; decide) IG
   have n4:((a2.put (some 8) v).put (some 9) v3).tmps.size=10:=by rw [(pn _ _ _).2]; exact n3
   have hG3:=Wl.mono (l2.trans l3)
   refine qC (fr:=none) (C:=K) (nt:=10) (g:=g3) (U:=cN) (ρ:=(rR.put 8 (.func (.func gf) first cap)).put 9 x) (mu:=false) (ds:=[]) (K:=fun y s=>s=cN.bZ a [x]) (Kp:=fun _ _=>False) (by rfl) s3 hG3 r4 n4 ?_ ?_ (fun _ _ _ _ _ _ _ _ hf=>hf.elim)
   . rw [<- qg]
     show (aI (oY K.P 87) (.box a 0) x cN).wp K cN _ _
     rw [agy,nW ba]
     simp only [wp_cond,mF,Wq]
     exact ⟨⟨o6,rfl,by simp⟩,rfl⟩
   rintro g4 _ w4 _ _ l4 s4 _ rfl
   refine qC (fr:=none) (C:=K) (nt:=10) (g:=g4) (U:=cN.bZ a [x]) (ρ:=(rR.put 8 (.func (.func gf) first cap)).put 9 x) (mu:=false) (ds:=[]) (K:=fun y s=>s=(cN.bZ a [x]).bZ b [.int .i64 0]) (Kp:=fun _ _=>False) (by rfl) s4 (hG3.mono l4) (r4.mono l4) n4 ?_ ?_ (fun _ _ _ _ _ _ _ _ hf=>hf.elim)
   . rw [<- qg]
     show (aI (oY K.P 3) (.box b 0) (.int .i64 0) (cN.bZ a [x])).wp K _ _ _
     have:(cN.bZ a [x]).box b=some [xb]:=by simp only [St.bZ]; rw [sa,if_neg (Ne.symm ab)]; exact bb
     rw [vT3,nW this]
     simp only [wp_cond,mF]
     exact ⟨by simp,rfl⟩
   rintro g5 _ w5 _ _ l5 s5 _ rfl
   refine qC (fr:=none) (C:=K) (nt:=10) (g:=g5) (U:=(cN.bZ a [x]).bZ b [.int .i64 0]) (ρ:=(rR.put 8 (.func (.func gf) first cap)).put 9 x) (mu:=false) (ds:=[]) (K:=fun y s=>s=((cN.bZ a [x]).bZ b [.int .i64 0]).bZ c [.bool true]) (Kp:=fun _ _=>False) (by rfl) s5 (hG3.mono (l4.trans l5)) (r4.mono (l4.trans l5)) n4 ?_ ?_ (fun _ _ _ _ _ _ _ _ hf=>hf.elim)
   . rw [<- qg]
     show (aI (oY K.P 4) (.box c 0) (.bool true) ((cN.bZ a [x]).bZ b [.int .i64 0])).wp K _ _ _
     have:((cN.bZ a [x]).bZ b [.int .i64 0]).box c=some [xc]:=by simp only [St.bZ]; rw [sa,if_neg (Ne.symm bc),sa,if_neg (Ne.symm ac)]; exact bcx
     rw [vT4,nW this]
     simp only [wp_cond,mF]
     exact ⟨by simp,rfl⟩
   rintro g6 _ w6 _ _ l6 s6 _ rfl
   show Code.wpIn Fence.wide 0 K.P .ret _ _ _
   refine wpIn_ret ?_
   have l16:=l2.trans (l3.trans (l4.trans (l5.trans l6)))
   refine deferred (a3:=(a2.put (some 8) v).put (some 9) v3) (x:=.dq) (v:=.nilIface) (u:=.returning) (u':=.returning) (Rn:=fun s=>s=((cN.bZ a [x]).bZ b [.int .i64 0]).bZ c [.bool true]) l16 d2 s6 (by simp only [ay]) (.inl ⟨rfl,rfl,rfl⟩) (Y0 rfl) ?_
   rintro g7 jy w7 l7 s7 rfl
   exact Xd (l1.trans (l16.trans l7)) s7 (r4.mono ((l4.trans (l5.trans l6)).trans l7)) rfl rfl rfl (by simp [St.bZ,ac,ab]) (by simp [St.bZ,bc]) (by simp [St.bZ]) hR
 . rintro g3 cN w3 x v3 l3 s3 IG ⟨at_,rfl,⟨xa,ka⟩,⟨xb,kb⟩,⟨xc,kc⟩,hR⟩
   show LeavesInM Fence.wide 0 K.P Tryz.f54 (a2.put (some 8) v).tmps (pH g R) (a2.put (some 8) v).defers _ w3
   refine deferred (a3:=a2.put (some 8) v) (u:=.panicking [{ v:=v3,recovered:=false }]) (u':=.panicking [{ v:=v3,recovered:=true }]) (Rn:=fun s=>∃ q,cN.dA q/\s=((((cN.new q (.box [.int .i64 at_])).bZ a [.aW]).bZ b [.int .i64 at_]).bZ c [.bool false])) (l2.trans l3) d2 s3 IG (.inr ⟨rfl,rfl⟩) (QP ka kb kc fun q hq=>⟨q,hq,rfl⟩) ?_
   rintro g4 dv w4 l4 s4 ⟨q,hq,rfl⟩
   exact Xd (l1.trans ((l2.trans l3).trans l4)) s4 ((r3.mono l3).mono l4) rfl rfl rfl (by simp [St.bZ,ac,ab]) (by simp [St.bZ,bc]) (by simp [St.bZ]) (hR q hq)
end Go.Rip
namespace Go.Rip
open Go.Proofs
abbrev cR:An:=.rg [] [] none
abbrev bm (a b:An):An:=.sq none a b
abbrev ai (b:An):An:=.sq none (.rg [] [] none) b
abbrev aN:BT:=BT.mk false false false none false
abbrev aE:Option (Bool × Nat):=some (false,1)
theorem bR {f:FuncId} {args:List AV} {R:cY->St->Prop} {U:St} {P:Prop} (fn:Func) (an:An) (h:P) (h1:K.P.funcs[f]?=some fn:=by kernel_rfl) (h2:okF fn an args.length=true:=by kernel_rfl) (h3:P=MC K fn an args R U:=by kernel_rfl):ae K f args U R :=
 ae.YG Hk an h1 h2 (Eq.mp h3 h)
end Go.Rip
