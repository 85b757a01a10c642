/- Lemmas for the proof: no conditions. -/
import Derived.Test.YtnfpmiiopiinbaaGreatDoorRipZz
import Derived.KernelRfl
import Derived.Lib.LaidTab
import Derived.Lib.ItoaNum
import Derived.Test.YtnfpmiiopiinbaaGreatDoorProg
import Derived.Test.YtnfpmiiopiinbaaGreatDoorRipC
set_option linter.unusedVariables false
set_option linter.unusedSimpArgs false
set_option linter.loopingSimpArgs false
namespace Go.Rip
def w_:List UInt8:=[]
def tY:List UInt8:=[48,49,50,51,52,53,54,55,56,57]
def mW:List UInt8:=[10]
def MI:List UInt8:=[32]
def oz:List UInt8:=[32,40]
def BZ:List UInt8:=[32,46]
def re:List UInt8:=[32,58]
def lO:List UInt8:=[32,58,32]
def vq:List UInt8:=[32,58,61]
def ga:List UInt8:=[32,58,61,32]
def oL:List UInt8:=[32,105,110]
def qz:List UInt8:=[33]
def B0:List UInt8:=[33,32]
def ek:List UInt8:=[40]
def eV:List UInt8:=[41]
def Ec:List UInt8:=[41,32,45,62]
def JN:List UInt8:=[41,32,58]
def sY:List UInt8:=[42]
def rD:List UInt8:=[43]
def dW:List UInt8:=[44]
def qA:List UInt8:=[45]
def gd:List UInt8:=[45,62]
def rE:List UInt8:=[46]
def eD:List UInt8:=[58]
def cR:List UInt8:=[58,61]
def dO:List UInt8:=[59]
def oM:List UInt8:=[59,32,112,117,116,32]
def rF:List UInt8:=[60]
def iJ:List UInt8:=[61]
def dX:List UInt8:=[61,60,43,45,42,33,40,41,123,125,44,59,58,46]
def qB:List UInt8:=[123]
def JO:List UInt8:=[123,32,103,101,116]
def rG:List UInt8:=[125]
def xX:List UInt8:=[97,110,100]
def zZ:List UInt8:=[97,115]
def Ed:List UInt8:=[97,115,32]
def tZ:List UInt8:=[98,111,111,108]
def kM:List UInt8:=[99,101,108,108]
def z8:List UInt8:=[99,101,108,108,32]
def lP:List UInt8:=[99,104,111,111,115,101]
def xY:List UInt8:=[99,111,109]
def j9:List UInt8:=[100,101,102]
def B1:List UInt8:=[100,101,102,32]
def xZ:List UInt8:=[100,111]
def ia:List UInt8:=[101,108,115,101]
def gO:List UInt8:=[101,120,112,111,114,116]
def vr:List UInt8:=[101,120,112,111,114,116,32]
def gp:List UInt8:=[102,97,108,115,101]
def x5:List UInt8:=[102,110]
def MJ:List UInt8:=[102,110,32,40]
def uO:List UInt8:=[103,101,116]
def lE:List UInt8:=[104,97,110,103]
def x6:List UInt8:=[105,102]
def fC:List UInt8:=[105,109,112,111,114,116]
def rH:List UInt8:=[105,109,112,111,114,116,32]
def kN:List UInt8:=[105,110]
def kU:List UInt8:=[105,110,116]
def B2:List UInt8:=[105,110,116,32]
def qD:List UInt8:=[106,117,109,112]
def Aa:List UInt8:=[106,117,109,112,32]
def nF:List UInt8:=[108,97,98,101,108]
def sZ:List UInt8:=[108,97,98,101,108,32]
def rI:List UInt8:=[110,101,119]
def oA:List UInt8:=[110,101,119,32]
def s0:List UInt8:=[110,111,116]
def lQ:List UInt8:=[110,111,116,105,99,101]
def nG:List UInt8:=[110,111,116,105,99,101,32]
def abn:List UInt8:=[111,102]
def B3:List UInt8:=[111,114]
def s8:List UInt8:=[112,117,116]
def jM:List UInt8:=[115,107,105,112]
def sb:List UInt8:=[116,104,101,110]
def gz:List UInt8:=[116,114,117,101]
def nH:List UInt8:=[119,104,105,108,101]
end Go.Rip
namespace Go.Rip
open Go.Proofs
def vw:List AV:=(List.range 256).map fun c=>.int .u8 (if c=9\/c=10\/c=11\/c=12\/c=13\/c=32 then 1 else 0)
def wg:List AV:=(List.range 20).map fun c=>.int .u64 (10 ^ c:Nat)
noncomputable def K:cT:=⟨Tryz.prog,fun i=>if i=0 then .cU vw else if i=7 then .cU wg else .any,fun i=>if i=7 then some (Lib.pow10Tab.map fun z=>Value.int .u64 z).toArray else none⟩
theorem Gj:K.P.follows .mixedOrders=true:=by show Tryz.prog.follows .mixedOrders=true; kernel_rfl
end Go.Rip
set_option maxRecDepth 100000
namespace Go.Rip
open Go.Proofs Go.RowKit
noncomputable def zJ:Code:=match Tryz.f98.body with | some (.seq _ c)=>c | _=>.skip
def R5:An:=.bk (.sq none (.rg [] [] none) (.cd (.rg [] [] none) (.sq none (.rg [] [] none) (.cd (.sq none (.rg [] [] none) (.rg [] [] (some ⟨[(true,0),(true,1),(false,2),(false,3),(false,4)],[⟨4096,16,0⟩,⟨8192,4096,1⟩,⟨0,1,0⟩,⟨0,8194,7⟩,⟨0,4,15⟩]⟩))) (.sq none (.rg [] [] none) (.rg [] [] none))))))
def KI (a0 a1 a2 x:AV) (Rn:St->Prop) (U:St):Prop :=
 (ai .eql (BT.mk false true false none false) true x AV.dv).wp K U (fun v8 U =>
 ao v8 (
  Rn U) (
  (vn (some (AV.agg [AV.int .i64 0])) x 136 true).wp K U (fun v9 U =>
  (aV v9 1).wp K U (fun v10 U =>
  (aV v9 0).wp K U (fun v11 U =>
  ao v10 (
   (ay.db [AV.int .i64 0]).wp K U (fun v4 U =>
   (aU (some (true,1)) v4 v11 U).wp K U (fun _ U =>
   (fun aw:St =>
   aF K (ae (some 0) v4) (fun v12 =>
   aF K (ah (some (false,1)) v12 aw) (fun bP =>
   (aU (some (false,1)) a0 AV.bU U).wp K U (fun _ U=>cL ((dK v12++[])++[]) aw U /\
   (aU (some (false,1)) a1 bP U).wp K U (fun _ U=>cL ((dK v12++[])++[]) aw U /\
   (aU (some (false,1)) a2 (AV.bool false) U).wp K U (fun _ U =>
   Rn U) (fun _ _=>False)) (fun _ _=>False)) (fun _ _=>False)))) U) (fun _ _=>False)) (fun _ _=>False)) (
   (zw x).wp K U (fun _ U =>
   Rn U) (fun _ _=>False))) (fun _ _=>False)) (fun _ _=>False)) (fun _ _=>False))) (fun _ _=>False)
theorem aaE {a0 a1 a2 x:AV} {Rn:St->Prop} {U:St} (h:KI a0 a1 a2 x Rn U):bI K 14 .bare zJ (Ux Rn) ((Env.jG [a0,a1,a2]).put 6 x) U:=by
 have h2:nx K zJ R5 ⟨fun _ U=>Rn U,fun _ _ _=>False,fun _ U=>Rn U,fun _ _=>False⟩ ((Env.jG [a0,a1,a2]).put 6 x) U :=
  Eq.mp (show KI a0 a1 a2 x Rn U=nx K zJ R5 ⟨fun _ U=>Rn U,fun _ _ _=>False,fun _ U=>Rn U,fun _ _=>False⟩ ((Env.jG [a0,a1,a2]).put 6 x) U by kernel_rfl) h
 refine (Ab (nt:=14) Gj zJ R5 false .bare _ _ _ (by kernel_rfl) (fun h=>by cases h) h2).mono fun e ρ U he=>?_
 cases e with
 | normal=>exact he
 | ret=>exact he
 | exit i=>exact he.elim
 | panic x=>exact he.elim
theorem St.dw.ne {U:St} {q b:Nat} {l:List AV} (h:U.dw q) (hb:U.box b=some l):b ≠ q:=fun e=>by
 subst e
 obtain ⟨y,this,_⟩:=St.wH hb
 rw [h.1] at this; cases this
@[simp] theorem qL (U:St) (b y:Nat) (l:List AV):(U.set b (.box l)).box y=if y=b then some l else U.box y:=by
 simp only [St.box,St.set]; by_cases h:y=b <;> simp [h]
@[simp] theorem DD (U:St) (b y:Nat) (l:List AV):(U.new b (.box l)).box y=if y=b then some l else U.box y:=by
 simp only [St.box,St.new]; by_cases h:y=b <;> simp [h]
theorem WY {a0 a1 a2:AV} {Rn:St->Prop} {U:St} (h:Rn U):KI a0 a1 a2 .dv Rn U:=by
 show ((true=true->Rn U)/\_)
 exact ⟨fun _=>h,fun h=>by cases h⟩
theorem OY {a b c:Nat} {at_:Int} {x y z:AV} {Rn:St->Prop} {U:St} (ha:U.box a=some [x]) (hb:U.box b=some [y]) (hc:U.box c=some [z])
 (h:∀ q,U.dw q->Rn ((((U.new q (.box [.int .i64 at_])).cG a [.bU]).cG b [.int .i64 at_]).cG c [.bool false])):KI (.box a 0) (.box b 0) (.box c 0) (.iface 136 (.agg [.int .i64 at_])) Rn U:=by
 have e1:(ai .eql (BT.mk false true false none false) true (.iface 136 (.agg [.int .i64 at_])) AV.dv)=.val (.bool false):=rfl
 have e2:(vn (some (AV.agg [AV.int .i64 0])) (.iface 136 (.agg [.int .i64 at_])) 136 true)=.val (.aG [.agg [.int .i64 at_],.bool true]):=rfl
 simp only [KI,e1,e2,al,bG,bT,bH,List.drop_succ_cons,dQ,gH,pq]
 intro q hq
 have qa:=hq.ne ha
 have qb:=hq.ne hb
 have qc:=hq.ne hc
 have s1:(U.new q (.box [AV.int .i64 0])).box q=some [AV.int .i64 0]:=by simp
 simp only [NV.at]
 rw [mH s1]
 simp only [wp_cond,sd]
 refine ⟨by simp,?_⟩
 simp only [ct,ax]
 have e3:(U.new q (.box [AV.int .i64 0])).set q (.box (aK [AV.int .i64 0] 0 (aC (.agg [.int .i64 at_]))))=U.new q (.box [.int .i64 at_]):=by
  simp only [St.set,St.new,St.mk.injEq,and_true]
  funext y
  split <;> rfl
 rw [e3]
 have s2:(U.new q (.box [AV.int .i64 at_])).box q=some [AV.int .i64 at_]:=by simp
 rw [tJ s2]
 simp only [Nat.add_zero,dQ,gH,ax]
 have s3:(U.new q (.box [AV.int .i64 at_])).box a=some [x]:=by rw [DD,if_neg qa]; exact ha
 rw [mH s3]
 simp only [wp_cond,sd,cL,dK,gw,kH,forall_eq]
 refine ⟨by simp,by simp [St.set,Ne.symm qa],?_⟩
 have s4:((U.new q (.box [AV.int .i64 at_])).set a (.box (aK [x] 0 (aC .bU)))).box b=some [y]\/b=a:=by
  by_cases e:b=a
  . exact .inr e
  . left; rw [qL,if_neg e,DD,if_neg qb]; exact hb
 have s4':∃ y',((U.new q (.box [AV.int .i64 at_])).set a (.box (aK [x] 0 (aC .bU)))).box b=some [y']:=by
  rcases s4 with s4 | rfl
  . exact ⟨_,s4⟩
  . exact ⟨_,by rw [qL,if_pos rfl]; rfl⟩
 obtain ⟨y',s4⟩:=s4'
 rw [mH s4]
 simp only [wp_cond,sd]
 refine ⟨by simp,by simp [St.set,Ne.symm qa,Ne.symm qb],?_⟩
 have s5':∃ z',(((U.new q (.box [AV.int .i64 at_])).set a (.box (aK [x] 0 (aC .bU)))).set b (.box (aK [y'] 0 (aC (.int .i64 at_))))).box c=some [z']:=by
  rw [qL]
  split
  . exact ⟨_,rfl⟩
  . rw [qL]
    split
    . exact ⟨_,rfl⟩
    . rw [DD,if_neg qc]; exact ⟨_,hc⟩
 obtain ⟨z',s5⟩:=s5'
 rw [mH s5]
 simp only [wp_cond,sd]
 exact ⟨by simp,h q hq⟩
end Go.Rip
set_option maxRecDepth 100000
namespace Go.Rip
open Go.Proofs Go.RowKit
noncomputable def OH:Array Oper:=match Tryz.f54.body with | some (.seq (.region _ o _) _)=>o | _=>#[]
noncomputable def rV:Array Oper:=match Tryz.f54.body with | some (.seq _ (.seq (.region _ o _) _))=>o | _=>#[]
noncomputable def iV:Array Oper:=match Tryz.f54.body with | some (.seq _ (.seq _ (.seq (.region _ o _) _)))=>o | _=>#[]
theorem Y4:Tryz.f54.body=some (.seq (.region 0 OH false) (.seq (.region 1 rV false) (.seq (.region 2 iV false) .ret))):=by kernel_rfl
theorem WI:rV[0]?=some ⟨some 7,.makeFunc (.func 98) #[] #[.tmp 4,.tmp 5,.tmp 6],1,(rV.getD 0 default).pos,#[],none⟩:=by kernel_rfl
theorem WJ:rV[1]?=some ⟨none,.defer { callee:=.value (.tmp 7),args:=#[],argTypes:=#[] },0,(rV.getD 1 default).pos,#[⟨0,.data⟩],none⟩:=by kernel_rfl
theorem WK:iV[0]?=some ⟨some 8,.move (.tmp 1),90,(iV.getD 0 default).pos,(iV.getD 0 default).after,none⟩:=by kernel_rfl
theorem WL:iV[1]?=some ⟨some 9,.call { callee:=.value (.tmp 8),args:=#[],argTypes:=#[] },87,(iV.getD 1 default).pos,(iV.getD 1 default).after,none⟩:=by kernel_rfl
theorem WM:iV[2]?=some ⟨none,.store 87 (.tmp 4) (.tmp 9),0,(iV.getD 2 default).pos,(iV.getD 2 default).after,none⟩:=by kernel_rfl
theorem WN:iV[3]?=some ⟨none,.store 3 (.tmp 5) (.const (.int .i64 0)),0,(iV.getD 3 default).pos,(iV.getD 3 default).after,none⟩:=by kernel_rfl
theorem WO:iV[4]?=some ⟨none,.store 4 (.tmp 6) (.const (.bool true)),0,(iV.getD 4 default).pos,(iV.getD 4 default).after,none⟩:=by kernel_rfl
theorem ac5:List.range iV.size=[0,1,2,3,4]:=by kernel_rfl
theorem afs:nO K.P 87=some (false,1):=by kernel_rfl
theorem vT3:nO K.P 3=some (false,1):=by kernel_rfl
theorem vT4:nO K.P 4=some (false,1):=by kernel_rfl
theorem ac4:List.range rV.size=[0,1]:=by kernel_rfl
theorem JA {nt id:Nat} {ops:Array Oper} {Q:Qx} {ρ:Env} {U:St} (cS:kQ nt ops=true) (h:u7 K [] [] ops ops.toList ρ U Q.n Q.p):bI K nt .bare (.region id ops false) Q.q ρ U :=
 Ab (nt:=nt) Gj (.region id ops false) (.rg [] [] none) false .bare Q ρ U cS (fun h=>by cases h) h
noncomputable def aav:Oper:=match Tryz.f98.body with | some (.seq (.region _ o _) _)=>o.getD 0 default | _=>default
theorem MT:Tryz.f98.body=some (.seq (.region 0 #[⟨some 6,.call { callee:=.builtin .recover,args:=#[],argTypes:=#[] },20,aav.pos,#[],none⟩] false) zJ):=by kernel_rfl
theorem aap:(Tryz.f98.name == "runtime.NumGoroutine")=false:=by kernel_rfl
theorem SY (captured:Array Value) (w:World):(invoke (.fn (.func 98) captured) #[]).run K.P w=.ok (.enter 98 captured) w:=by
 have hfn:K.P.funcs[98]?=some Tryz.f98:=Tryz.func98
 have h1:Tryz.f98.name ≠ "runtime.NumGoroutine" := by simpa using aap
 simp [invoke,callFunc,hfn,h1,MT,Result.andThen,run_program]
theorem acF (ev:Operand->Value) (w:World):(execOp ev ⟨some 6,.call { callee:=.builtin .recover,args:=#[],argTypes:=#[] },20,aav.pos,#[],none⟩).run K.P w=.ok .recover w:=by
 simp [execOp,Go.resolve,invoke,builtin,Result.andThen]
theorem Vj {g0 g:Gh} {U:St} {w:World} {ρ:Env} {tmps:Array Value} {a b c:Nat} {x y z:AV} {R:cO->St->Prop} (hle:Gh.Le g0 g) (hs:bp g U w) (hr:gM g ρ tmps)
 (h4:ρ.get 4=.box a 0) (h5:ρ.get 5=.box b 0) (h6:ρ.get 6=.box c 0) (ha:U.box a=some [x]) (hb:U.box b=some [y]) (hc:U.box c=some [z]) (hR:R (.ret (.aG [x,y,z])) U) :
 LeavesInM Fence.wide 0 K.P Tryz.f54 tmps (oH g0 R) [] .returning w:=by
 have hk:vd K.P ρ U Tryz.f54.results.toList fun vs=>R (.ret (vi vs)) U:=by
  refine wj _ _ ?_
  refine Eq.mp (show (bF (some (false,1)) (ρ.get 4) U fun x=>bF (some (false,1)) (ρ.get 5) U fun y=>bF (some (false,1)) (ρ.get 6) U fun z=>R (.ret (.aG [x,y,z])) U)=_ by kernel_rfl) ?_
  rw [h4,h5,h6]
  simp only [bF,tJ ha,tJ hb,tJ hc,dQ,gH]
  exact hR
 obtain ⟨v,xs,gZ,hv,hk⟩:=Bd (a:={ tmps:=tmps,defers:=[] }) (fn:=Tryz.f54) hs hr hk
 exact ⟨v,gZ,g,U,_,hle,hs,hv,hk⟩
theorem Iw:JQ K 136 54:=by
 intro r gf first cap U R tA h g w vs hs hG ha
 have hl:=ha.length
 refine callsIn_of_wp_marks Tryz.func54 Y4 trivial ?_
 have DM:=Bn [r,.func (.func gf) first cap] vs (Tryz.f54.ntmps - vs.toArray.size) ha
 have yk:Tryz.f54.ntmps=10:=by kernel_rfl
 have eH:(vs.toArray++Array.replicate (Tryz.f54.ntmps - vs.toArray.size) undef).size=10:=by rw [yk]; simp at hl ⊢; omega
 generalize vs.toArray++Array.replicate (Tryz.f54.ntmps - vs.toArray.size) undef=tm0 at DM eH
 have c0:bI K 10 .bare (.region 0 OH false) (Qx.q ⟨fun ρ af=>∃ a b c,U.dw a/\(U.new a (.box [.bU])).dw b/\((U.new a (.box [.bU])).new b (.box [.int .i64 0])).dw c /\
  ρ=(((Env.jG [r,.func (.func gf) first cap]).put 4 (.box a 0)).put 5 (.box b 0)).put 6 (.box c 0)/\af=(((U.new a (.box [.bU])).new b (.box [.int .i64 0])).new c (.box [.bool false])),fun _ _ _=>False,fun _ _=>False,fun _ _=>False⟩)
  (Env.jG [r,.func (.func gf) first cap]) U:=by
  refine JA (by kernel_rfl) ?_
  refine Eq.mp (show (∀ a,U.dw a->∀ b,(U.new a (.box [.bU])).dw b->∀ c,((U.new a (.box [.bU])).new b (.box [.int .i64 0])).dw c ->
   (fun (ρ:Env) (af:St)=>∃ a b c,U.dw a/\(U.new a (.box [.bU])).dw b/\((U.new a (.box [.bU])).new b (.box [.int .i64 0])).dw c /\
   ρ=(((Env.jG [r,.func (.func gf) first cap]).put 4 (.box a 0)).put 5 (.box b 0)).put 6 (.box c 0)/\af=(((U.new a (.box [.bU])).new b (.box [.int .i64 0])).new c (.box [.bool false])))
    ((((Env.jG [r,.func (.func gf) first cap]).put 4 (.box a 0)).put 5 (.box b 0)).put 6 (.box c 0)) (((U.new a (.box [.bU])).new b (.box [.int .i64 0])).new c (.box [.bool false])))=_ by kernel_rfl) ?_
  exact fun a ha b hb c hc=>⟨a,b,c,ha,hb,hc,rfl,rfl⟩
 refine wpIn_seq (wpIn_mono (c0 g w { tmps:=tm0,defers:=[] } none hs hG DM eH trivial) ?_)
 rintro e a1 w1 ⟨n1,g1,aQ,ρ1,ms,d1,m1,l1,s1,r1,q1⟩
 have y6:ms=[]:=m1.none rfl
 subst y6
 simp only [jU,mw] at d1
 cases e <;> simp only [GN,Qx.q] at q1
 case panic=>obtain ⟨_,_,_,_,hf⟩:=q1; exact hf.elim
 obtain ⟨a,b,c,fa,fb,fc,rfl,rfl⟩:=q1
 have UD:=hG.mono l1
 refine wpIn_seq (wpIn_region ?_)
 rw [ac4]
 simp only [wpOpsIn,WI,WJ,Region.wanted,if_true]
 have h4:=r1 4; have h5:=r1 5; have h6:=r1 6; have h1:=r1 1
 simp only [Env.put,Env.jG] at h4 h5 h6 h1
 have h4:aE g1 (.box a 0) (a1.tmps.getD 4 undef):=h4
 have h5:aE g1 (.box b 0) (a1.tmps.getD 5 undef):=h5
 have h6:aE g1 (.box c 0) (a1.tmps.getD 6 undef):=h6
 refine ⟨fun _ _=>trivial,?_⟩
 let fv:Value:=.func (.func 98) #[] #[a1.tmps.getD 4 undef,a1.tmps.getD 5 undef,a1.tmps.getD 6 undef]
 have hmk:(Oper.semAt Fence.wide.round a1.eval ⟨some 7,.makeFunc (.func 98) #[] #[.tmp 4,.tmp 5,.tmp 6],1,(rV.getD 0 default).pos,#[],none⟩).run K.P w1=.ok (.value fv) w1:=by
  simp [Oper.semAt,execOp,fv,Act.eval,Fence.wide,Instr.makeFunc,Result.andThen]
 rw [hmk,Oper.uponIn_value]
 have e7:(a1.put (some 7) fv).eval (.tmp 7)=fv:=by
  show (a1.tmps.setIfInBounds 7 fv).getD 7 undef=fv
  simp [n1]
 refine ⟨fun _ _=>trivial,?_⟩
 have G7:(Oper.semAt Fence.wide.round (a1.put (some 7) fv).eval ⟨none,.defer { callee:=.value (.tmp 7),args:=#[],argTypes:=#[] },0,(rV.getD 1 default).pos,#[⟨0,.data⟩],none⟩).run K.P w1
  = .ok (.defer { target:=.fn (.func 98) #[a1.tmps.getD 4 undef,a1.tmps.getD 5 undef,a1.tmps.getD 6 undef],args:=#[] }) w1:=by
  simp [Oper.semAt,execOp,Go.resolve,e7,Fence.wide,Deferred.ofValue,Result.andThen]; simp [fv]
 rw [G7,Oper.uponIn_defer]
 show (Code.seq (.region 2 iV false) .ret).wpIn _ _ _ _ _ _
 let dd:Deferred:={ target:=.fn (.func 98) #[a1.tmps.getD 4 undef,a1.tmps.getD 5 undef,a1.tmps.getD 6 undef],args:=#[] }
 let a2:Act:={ tmps:=a1.tmps.setIfInBounds 7 fv,defers:=dd::a1.defers }
 show (Code.seq (.region 2 iV false) .ret).wpIn Fence.wide 0 K.P _ a2 w1
 let qF:Env:=((((Env.jG [r,.func (.func gf) first cap]).put 4 (.box a 0)).put 5 (.box b 0)).put 6 (.box c 0)).put 7 .any
 have r2:gM g1 qF a2.tmps:=r1.put (by rw [n1]; decide) (by simp only [aE])
 let cz:St:=((U.new a (.box [.bU])).new b (.box [.int .i64 0])).new c (.box [.bool false])
 have ab:a ≠ b:=fun e=>by subst e; simp [St.dw,St.new] at fb
 have ac:a ≠ c:=fun e=>by
  subst e
  have:=fc.1
  simp only [St.new,if_true] at this
  split at this <;> cases this
 have bc:b ≠ c:=fun e=>by subst e; simp [St.dw,St.new] at fc
 have n2:a2.tmps.size=10:=by show (a1.tmps.setIfInBounds 7 fv).size=10; simp [n1]
 have d2:a2.defers=[dd]:=by show dd::a1.defers=_; rw [d1]
 have g4':a2.tmps.getD 4 undef=a1.tmps.getD 4 undef:=by show (a1.tmps.setIfInBounds 7 fv).getD 4 undef=_; simp
 have g5':a2.tmps.getD 5 undef=a1.tmps.getD 5 undef:=by show (a1.tmps.setIfInBounds 7 fv).getD 5 undef=_; simp
 have UA:a2.tmps.getD 6 undef=a1.tmps.getD 6 undef:=by show (a1.tmps.setIfInBounds 7 fv).getD 6 undef=_; simp
 have deferred:∀ {a3:Act} {g3:Gh} {dZ:St} {w3:World} {x:AV} {v:Value} {u u':FrameMode} {Rn:St->Prop},Gh.Le g1 g3->a3.defers=[dd]->bp g3 dZ w3->aE g3 x v->((u=.returning/\v=.nilIface/\u'=.returning)\/(u=.panicking [{ v,recovered:=false }]/\u'=.panicking [{ v,recovered:=true }])) ->
  KI (.box a 0) (.box b 0) (.box c 0) x Rn dZ->(∀ g4 eW w4,Gh.Le g3 g4->bp g4 eW w4->Rn eW->LeavesInM Fence.wide 0 K.P Tryz.f54 a3.tmps (oH g R) [] (settle u') w4) ->
  LeavesInM Fence.wide 0 K.P Tryz.f54 a3.tmps (oH g R) a3.defers u w3:=by
  intro a3 g3 dZ w3 x v u u' Rn l3 d3 s3 hx hu hr hk
  rw [d3]
  simp only [LeavesInM]
  have ab8:aH g3 [.box a 0,.box b 0,.box c 0] [a1.tmps.getD 4 undef,a1.tmps.getD 5 undef,a1.tmps.getD 6 undef]:=by
   simp only [aH]
   exact ⟨_,_,rfl,h4.mono l3,_,_,rfl,h5.mono l3,_,_,rfl,h6.mono l3,rfl⟩
  refine ⟨by rcases hu with ⟨rfl,_⟩ | ⟨rfl,_⟩ <;> simp,.inr ⟨fun hd=>by simp [Fence.wide] at hd,.func 98,_,98,_,rfl,SY _ _,fun _ _=>trivial,?_⟩⟩
  have:=W1 (C:=K) (f:=98) (fn:=Tryz.f98) (id:=0) (d:=6) (vs:=[a1.tmps.getD 4 undef,a1.tmps.getD 5 undef,a1.tmps.getD 6 undef]) (args:=[.box a 0,.box b 0,.box c 0]) (hf:=Tryz.func98) (hb:=MT) (hres:=by kernel_rfl) (hop:=acF) (hd:=rfl) (hdn:=by decide +kernel) (hg:=rfl)
   (hlen:=Nat.le_of_ble_eq_true (n:=3) (m:=Tryz.f98.ntmps) (by kernel_rfl)) s3 (UD.mono l3) ab8 hx hu Rn (aaE hr)
  refine CallsDIn.mono this ?_
  rintro e u2 w4 ⟨v',rfl,rfl,g4,eW,l4,s4,hn⟩
  exact hk g4 eW w4 l4 s4 hn
 refine wpIn_seq (wpIn_region ?_)
 rw [ac5]
 simp only [wpOpsIn,WK,WL,WM,WN,WO,Region.wanted,if_true]
 refine pI (fr:=none) (C:=K) (nt:=10) (g:=g1) (U:=cz) (ρ:=qF) (mu:=false) (ds:=[]) (K:=fun x s=>x=.func (.func gf) first cap/\s=cz) (Kp:=fun _ _=>False) (by rfl) s1 UD r2 n2 ?_ ?_ (fun _ _ _ _ _ _ _ _ hf=>hf.elim)
 . exact ⟨rfl,rfl⟩
 rintro g2 af w2 x v l2 s2 hx ⟨rfl,rfl⟩
 have r3:gM g2 (qF.put 8 (.func (.func gf) first cap)) (a2.put (some 8) v).tmps:=(r2.mono l2).put (by rw [n2]; decide) hx
 have n3:(a2.put (some 8) v).tmps.size=10:=by rw [(om _ _ _).2]; exact n2
 refine pI (fr:=none) (C:=K) (nt:=10) (g:=g2) (U:=cz) (ρ:=qF.put 8 (.func (.func gf) first cap)) (mu:=false) (ds:=[]) (K:=fun x s=>Iv 136 a b c R (.ret x) s) (Kp:=fun x s=>Iv 136 a b c R (.panic x) s) (by rfl) s2 (UD.mono l2) r3 n3 ?_ ?_ ?_
 . show ((jW K.P (.func (.func gf) first cap) []).wp K cz _ _)
   simp only [jW,tA,if_true,kO,gw]
   refine (h a b c fa fb fc).mono fun res af hres=>?_
   cases res <;> exact hres
 . rintro g3 dZ w3 x v3 l3 s3 hx3 ⟨U0,⟨xa,ba⟩,⟨xb,bb⟩,⟨xc,bcx⟩,hR⟩
   have hcv:aC x=[x]:=by cases x <;> first | rfl | cases U0
   have pT:x.eF=true:=by cases x <;> first | rfl | cases U0
   have r4:gM g3 ((qF.put 8 (.func (.func gf) first cap)).put 9 x) ((a2.put (some 8) v).put (some 9) v3).tmps:=(r3.mono l3).put (by rw [n3]; decide) hx3
   have n4:((a2.put (some 8) v).put (some 9) v3).tmps.size=10:=by rw [(om _ _ _).2]; exact n3
   have Zy:=UD.mono (l2.trans l3)
   refine pI (fr:=none) (C:=K) (nt:=10) (g:=g3) (U:=dZ) (ρ:=(qF.put 8 (.func (.func gf) first cap)).put 9 x) (mu:=false) (ds:=[]) (K:=fun y s=>s=dZ.cG a [x]) (Kp:=fun _ _=>False) (by rfl) s3 Zy r4 n4 ?_ ?_ (fun _ _ _ _ _ _ _ _ hf=>hf.elim)
   . rw [<- pk]
     show (aU (nO K.P 87) (.box a 0) x dZ).wp K dZ _ _
     rw [afs,mH ba]
     simp only [wp_cond,sd,hcv]
     exact ⟨⟨pT,rfl,by simp⟩,rfl⟩
   rintro g4 _ w4 _ _ l4 s4 _ rfl
   refine pI (fr:=none) (C:=K) (nt:=10) (g:=g4) (U:=dZ.cG a [x]) (ρ:=(qF.put 8 (.func (.func gf) first cap)).put 9 x) (mu:=false) (ds:=[]) (K:=fun y s=>s=(dZ.cG a [x]).cG b [.int .i64 0]) (Kp:=fun _ _=>False) (by rfl) s4 (Zy.mono l4) (r4.mono l4) n4 ?_ ?_ (fun _ _ _ _ _ _ _ _ hf=>hf.elim)
   . rw [<- pk]
     show (aU (nO K.P 3) (.box b 0) (.int .i64 0) (dZ.cG a [x])).wp K _ _ _
     have:(dZ.cG a [x]).box b=some [xb]:=by simp only [St.cG]; rw [qL,if_neg (Ne.symm ab)]; exact bb
     rw [vT3,mH this]
     simp only [wp_cond,sd]
     exact ⟨by simp,rfl⟩
   rintro g5 _ w5 _ _ l5 s5 _ rfl
   refine pI (fr:=none) (C:=K) (nt:=10) (g:=g5) (U:=(dZ.cG a [x]).cG b [.int .i64 0]) (ρ:=(qF.put 8 (.func (.func gf) first cap)).put 9 x) (mu:=false) (ds:=[]) (K:=fun y s=>s=((dZ.cG a [x]).cG b [.int .i64 0]).cG c [.bool true]) (Kp:=fun _ _=>False) (by rfl) s5 (Zy.mono (l4.trans l5)) (r4.mono (l4.trans l5)) n4 ?_ ?_ (fun _ _ _ _ _ _ _ _ hf=>hf.elim)
   . rw [<- pk]
     show (aU (nO K.P 4) (.box c 0) (.bool true) ((dZ.cG a [x]).cG b [.int .i64 0])).wp K _ _ _
     have:((dZ.cG a [x]).cG b [.int .i64 0]).box c=some [xc]:=by simp only [St.cG]; rw [qL,if_neg (Ne.symm bc),qL,if_neg (Ne.symm ac)]; exact bcx
     rw [vT4,mH this]
     simp only [wp_cond,sd]
     exact ⟨by simp,rfl⟩
   rintro g6 _ w6 _ _ l6 s6 _ rfl
   show Code.wpIn Fence.wide 0 K.P .ret _ _ _
   refine wpIn_ret ?_
   have l16:=l2.trans (l3.trans (l4.trans (l5.trans l6)))
   refine deferred (a3:=(a2.put (some 8) v).put (some 9) v3) (x:=.dv) (v:=.nilIface) (u:=.returning) (u':=.returning) (Rn:=fun s=>s=((dZ.cG a [x]).cG b [.int .i64 0]).cG c [.bool true]) l16 d2 s6 (by simp only [aE]) (.inl ⟨rfl,rfl,rfl⟩) (WY rfl) ?_
   rintro g7 jN w7 l7 s7 rfl
   exact Vj (l1.trans (l16.trans l7)) s7 (r4.mono ((l4.trans (l5.trans l6)).trans l7)) rfl rfl rfl (by simp [St.cG,ac,ab]) (by simp [St.cG,bc]) (by simp [St.cG]) hR
 . rintro g3 dZ w3 x v3 l3 s3 hx3 ⟨at_,rfl,⟨xa,ka⟩,⟨xb,kb⟩,⟨xc,kc⟩,hR⟩
   show LeavesInM Fence.wide 0 K.P Tryz.f54 (a2.put (some 8) v).tmps (oH g R) (a2.put (some 8) v).defers _ w3
   refine deferred (a3:=a2.put (some 8) v) (u:=.panicking [{ v:=v3,recovered:=false }]) (u':=.panicking [{ v:=v3,recovered:=true }]) (Rn:=fun s=>∃ q,dZ.dw q/\s=((((dZ.new q (.box [.int .i64 at_])).cG a [.bU]).cG b [.int .i64 at_]).cG c [.bool false])) (l2.trans l3) d2 s3 hx3 (.inr ⟨rfl,rfl⟩) (OY ka kb kc fun q hq=>⟨q,hq,rfl⟩) ?_
   rintro g4 eW w4 l4 s4 ⟨q,hq,rfl⟩
   exact Vj (l1.trans ((l2.trans l3).trans l4)) s4 ((r3.mono l3).mono l4) rfl rfl rfl (by simp [St.cG,ac,ab]) (by simp [St.cG,bc]) (by simp [St.cG]) (hR q hq)
end Go.Rip
namespace Go.Rip
open Go.Proofs
abbrev bu:An:=.rg [] [] none
abbrev aR (a b:An):An:=.sq none a b
abbrev ak (b:An):An:=.sq none (.rg [] [] none) b
abbrev av:BT:=BT.mk false false false none false
abbrev aD:Option (Bool × Nat):=some (false,1)
theorem bB {f:FuncId} {args:List AV} {R:cO->St->Prop} {U:St} {P:Prop} (fn:Func) (an:An) (h:P) (h1:K.P.funcs[f]?=some fn:=by kernel_rfl) (h2:okF fn an args.length=true:=by kernel_rfl) (h3:P=K6 K fn an args R U:=by kernel_rfl):ag K f args U R :=
 ag.WH Gj an h1 h2 (Eq.mp h3 h)
end Go.Rip
