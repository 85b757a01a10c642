/- Lemmas for the proof: no conditions. -/
import Derived.Test.YtnfpmiiopiinbaaGreatDoorRipZz
import Derived.KernelRfl
import Derived.Lib.LaidTab
import Derived.Lib.ItoaNum
import Derived.Test.YtnfpmiiopiinbaaGreatDoorProg
import Derived.Test.YtnfpmiiopiinbaaGreatDoorRipC
set_option linter.unusedVariables false
set_option linter.unusedSimpArgs false
set_option linter.loopingSimpArgs false
namespace Go.Rip
def w_:List UInt8:=[]
def lR:List UInt8:=[10]
def oK:List UInt8:=[33]
def fy:List UInt8:=[40]
def gd:List UInt8:=[41]
def tE:List UInt8:=[42]
def tF:List UInt8:=[43]
def fG:List UInt8:=[44]
def tG:List UInt8:=[45]
def iq:List UInt8:=[45,62]
def wu:List UInt8:=[46]
def gX:List UInt8:=[58]
def bX:List UInt8:=[58,61]
def ff:List UInt8:=[59]
def tH:List UInt8:=[60]
def lS:List UInt8:=[61]
def dw:List UInt8:=[61,60,43,45,42,33,40,41,123,125,44,59,58,46]
def rL:List UInt8:=[123]
def tI:List UInt8:=[125]
def wv:List UInt8:=[97,110,100]
def yw:List UInt8:=[97,115]
def B0:List UInt8:=[98,111,111,108]
def nz:List UInt8:=[99,101,108,108]
def kM:List UInt8:=[99,104,111,111,115,101]
def EH:List UInt8:=[99,111,109]
def j0:List UInt8:=[100,101,102]
def uj:List UInt8:=[100,111]
def fZ:List UInt8:=[101,108,115,101]
def gz:List UInt8:=[101,120,112,111,114,116]
def dC:List UInt8:=[102,97,108,115,101]
def yx:List UInt8:=[102,110]
def yX:List UInt8:=[103,101,116]
def gY:List UInt8:=[104,97,110,103]
def uk:List UInt8:=[105,102]
def eS:List UInt8:=[105,109,112,111,114,116]
def lT:List UInt8:=[105,110]
def mQ:List UInt8:=[105,110,116]
def mg:List UInt8:=[106,117,109,112]
def nL:List UInt8:=[108,97,98,101,108]
def rM:List UInt8:=[110,101,119]
def wx:List UInt8:=[110,111,116]
def lU:List UInt8:=[110,111,116,105,99,101]
def aeb:List UInt8:=[111,102]
def Aw:List UInt8:=[111,114]
def yZ:List UInt8:=[112,117,116]
def fA:List UInt8:=[115,107,105,112]
def pS:List UInt8:=[116,104,101,110]
def du:List UInt8:=[116,114,117,101]
def lz:List UInt8:=[119,104,105,108,101]
end Go.Rip
namespace Go.Rip
open Go.Proofs
def uq:List AV:=(List.range 256).map fun c=>.int .u8 (if c=9\/c=10\/c=11\/c=12\/c=13\/c=32 then 1 else 0)
def u1:List AV:=(List.range 20).map fun c=>.int .u64 (10 ^ c:Nat)
noncomputable def K:cq:=⟨Tryz.prog,fun i=>if i=0 then .cn uq else if i=7 then .cn u1 else .any,fun i=>if i=7 then some (Lib.pow10Tab.map fun z=>Value.int .u64 z).toArray else none⟩
theorem EM:K.P.follows .mixedOrders=true:=by show Tryz.prog.follows .mixedOrders=true; kernel_rfl
end Go.Rip
set_option maxRecDepth 100000
namespace Go.Rip
open Go.Proofs Go.RowKit
noncomputable def yg:Code:=match Tryz.f98.body with | some (.seq _ c)=>c | _=>.skip
def Qg:An:=.bk (.sq none (.rg [] [] none) (.cd (.rg [] [] none) (.sq none (.rg [] [] none) (.cd (.sq none (.rg [] [] none) (.rg [] [] (some ⟨[(true,0),(true,1),(false,2),(false,3),(false,4)],[⟨4096,16,0⟩,⟨8192,4096,1⟩,⟨0,1,0⟩,⟨0,8194,7⟩,⟨0,4,15⟩]⟩))) (.sq none (.rg [] [] none) (.rg [] [] none))))))
def Jc (a0 a1 a2 x:AV) (Rn:St->Prop) (U:St):Prop :=
 (ar .eql (BT.mk false true false none false) true x AV.cJ).wp K U (fun v8 U =>
 av v8 (
  Rn U) (
  (ui (some (AV.agg [AV.int .i64 0])) x 136 true).wp K U (fun v9 U =>
  (aR v9 1).wp K U (fun v10 U =>
  (aR v9 0).wp K U (fun v11 U =>
  av v10 (
   (aD.cP [AV.int .i64 0]).wp K U (fun v4 U =>
   (aJ (some (true,1)) v4 v11 U).wp K U (fun _ U =>
   (fun ao:St =>
   ax K (af (some 0) v4) (fun v12 =>
   ax K (ah (some (false,1)) v12 ao) (fun cb =>
   (aJ (some (false,1)) a0 AV.aV U).wp K U (fun _ U=>cg ((cM v12++[])++[]) ao U /\
   (aJ (some (false,1)) a1 cb U).wp K U (fun _ U=>cg ((cM v12++[])++[]) ao U /\
   (aJ (some (false,1)) a2 (AV.bool false) U).wp K U (fun _ U =>
   Rn U) (fun _ _=>False)) (fun _ _=>False)) (fun _ _=>False)))) U) (fun _ _=>False)) (fun _ _=>False)) (
   (sA x).wp K U (fun _ U =>
   Rn U) (fun _ _=>False))) (fun _ _=>False)) (fun _ _=>False)) (fun _ _=>False))) (fun _ _=>False)
theorem Y9 {a0 a1 a2 x:AV} {Rn:St->Prop} {U:St} (h:Jc a0 a1 a2 x Rn U):bo K 14 .bare yg (SB Rn) ((Env.iJ [a0,a1,a2]).put 6 x) U:=by
 have h2:mh K yg Qg ⟨fun _ U=>Rn U,fun _ _ _=>False,fun _ U=>Rn U,fun _ _=>False⟩ ((Env.iJ [a0,a1,a2]).put 6 x) U :=
  Eq.mp (show Jc a0 a1 a2 x Rn U=mh K yg Qg ⟨fun _ U=>Rn U,fun _ _ _=>False,fun _ U=>Rn U,fun _ _=>False⟩ ((Env.iJ [a0,a1,a2]).put 6 x) U by kernel_rfl) h
 refine (yz (nt:=14) EM yg Qg false .bare _ _ _ (by kernel_rfl) (fun h=>by cases h) h2).mono fun e ρ U he=>?_
 cases e with
 | normal=>exact he
 | ret=>exact he
 | exit i=>exact he.elim
 | panic x=>exact he.elim
theorem St.cY.ne {U:St} {q b:Nat} {l:List AV} (h:U.cY q) (hb:U.box b=some l):b ≠ q:=fun e=>by
 subst e
 obtain ⟨y,this,_⟩:=St.rU hb
 rw [h.1] at this; cases this
@[simp] theorem p4 (U:St) (b y:Nat) (l:List AV):(U.set b (.box l)).box y=if y=b then some l else U.box y:=by
 simp only [St.box,St.set]; by_cases h:y=b <;> simp [h]
@[simp] theorem Cb (U:St) (b y:Nat) (l:List AV):(U.new b (.box l)).box y=if y=b then some l else U.box y:=by
 simp only [St.box,St.new]; by_cases h:y=b <;> simp [h]
theorem Vl {a0 a1 a2:AV} {Rn:St->Prop} {U:St} (h:Rn U):Jc a0 a1 a2 .cJ Rn U:=by
 show ((true=true->Rn U)/\_)
 exact ⟨fun _=>h,fun h=>by cases h⟩
theorem Nx {a b c:Nat} {at_:Int} {x y z:AV} {Rn:St->Prop} {U:St} (ha:U.box a=some [x]) (hb:U.box b=some [y]) (hc:U.box c=some [z])
 (h:∀ q,U.cY q->Rn ((((U.new q (.box [.int .i64 at_])).bW a [.aV]).bW b [.int .i64 at_]).bW c [.bool false])):Jc (.box a 0) (.box b 0) (.box c 0) (.iface 136 (.agg [.int .i64 at_])) Rn U:=by
 have e1:(ar .eql (BT.mk false true false none false) true (.iface 136 (.agg [.int .i64 at_])) AV.cJ)=.val (.bool false):=rfl
 have e2:(ui (some (AV.agg [AV.int .i64 0])) (.iface 136 (.agg [.int .i64 at_])) 136 true)=.val (.aF [.agg [.int .i64 at_],.bool true]):=rfl
 simp only [Jc,e1,e2,al,bq,bH,bB,List.drop_succ_cons,dJ,c7,ju]
 intro q hq
 have qa:=hq.ne ha
 have qb:=hq.ne hb
 have qc:=hq.ne hc
 have s1:(U.new q (.box [AV.int .i64 0])).box q=some [AV.int .i64 0]:=by simp
 simp only [NV.at]
 rw [lB s1]
 simp only [wp_cond,kB]
 refine ⟨by simp,?_⟩
 simp only [bg,aC]
 have e3:(U.new q (.box [AV.int .i64 0])).set q (.box (aB [AV.int .i64 0] 0 (au (.agg [.int .i64 at_]))))=U.new q (.box [.int .i64 at_]):=by
  simp only [St.set,St.new,St.mk.injEq,and_true]
  funext y
  split <;> rfl
 rw [e3]
 have s2:(U.new q (.box [AV.int .i64 at_])).box q=some [AV.int .i64 at_]:=by simp
 rw [sn s2]
 simp only [Nat.add_zero,dJ,c7,aC]
 have s3:(U.new q (.box [AV.int .i64 at_])).box a=some [x]:=by rw [Cb,if_neg qa]; exact ha
 rw [lB s3]
 simp only [wp_cond,kB,cg,cM,ia,jg,forall_eq]
 refine ⟨by simp,by simp [St.set,Ne.symm qa],?_⟩
 have s4:((U.new q (.box [AV.int .i64 at_])).set a (.box (aB [x] 0 (au .aV)))).box b=some [y]\/b=a:=by
  by_cases e:b=a
  . exact .inr e
  . left; rw [p4,if_neg e,Cb,if_neg qb]; exact hb
 have s4':∃ y',((U.new q (.box [AV.int .i64 at_])).set a (.box (aB [x] 0 (au .aV)))).box b=some [y']:=by
  rcases s4 with s4 | rfl
  . exact ⟨_,s4⟩
  . exact ⟨_,by rw [p4,if_pos rfl]; rfl⟩
 obtain ⟨y',s4⟩:=s4'
 rw [lB s4]
 simp only [wp_cond,kB]
 refine ⟨by simp,by simp [St.set,Ne.symm qa,Ne.symm qb],?_⟩
 have s5':∃ z',(((U.new q (.box [AV.int .i64 at_])).set a (.box (aB [x] 0 (au .aV)))).set b (.box (aB [y'] 0 (au (.int .i64 at_))))).box c=some [z']:=by
  rw [p4]
  split
  . exact ⟨_,rfl⟩
  . rw [p4]
    split
    . exact ⟨_,rfl⟩
    . rw [Cb,if_neg qc]; exact ⟨_,hc⟩
 obtain ⟨z',s5⟩:=s5'
 rw [lB s5]
 simp only [wp_cond,kB]
 exact ⟨by simp,h q hq⟩
end Go.Rip
set_option maxRecDepth 100000
namespace Go.Rip
open Go.Proofs Go.RowKit
noncomputable def Nk:Array Oper:=match Tryz.f54.body with | some (.seq (.region _ o _) _)=>o | _=>#[]
noncomputable def qF:Array Oper:=match Tryz.f54.body with | some (.seq _ (.seq (.region _ o _) _))=>o | _=>#[]
noncomputable def gU:Array Oper:=match Tryz.f54.body with | some (.seq _ (.seq _ (.seq (.region _ o _) _)))=>o | _=>#[]
theorem Xf:Tryz.f54.body=some (.seq (.region 0 Nk false) (.seq (.region 1 qF false) (.seq (.region 2 gU false) .ret))):=by kernel_rfl
theorem U6:qF[0]?=some ⟨some 7,.makeFunc (.func 98) #[] #[.tmp 4,.tmp 5,.tmp 6],1,(qF.getD 0 default).pos,#[],none⟩:=by kernel_rfl
theorem U7:qF[1]?=some ⟨none,.defer { callee:=.value (.tmp 7),args:=#[],argTypes:=#[] },0,(qF.getD 1 default).pos,#[⟨0,.data⟩],none⟩:=by kernel_rfl
theorem U8:gU[0]?=some ⟨some 8,.move (.tmp 1),90,(gU.getD 0 default).pos,(gU.getD 0 default).after,none⟩:=by kernel_rfl
theorem U9:gU[1]?=some ⟨some 9,.call { callee:=.value (.tmp 8),args:=#[],argTypes:=#[] },87,(gU.getD 1 default).pos,(gU.getD 1 default).after,none⟩:=by kernel_rfl
theorem Va:gU[2]?=some ⟨none,.store 87 (.tmp 4) (.tmp 9),0,(gU.getD 2 default).pos,(gU.getD 2 default).after,none⟩:=by kernel_rfl
theorem Vb:gU[3]?=some ⟨none,.store 3 (.tmp 5) (.const (.int .i64 0)),0,(gU.getD 3 default).pos,(gU.getD 3 default).after,none⟩:=by kernel_rfl
theorem Vc:gU[4]?=some ⟨none,.store 4 (.tmp 6) (.const (.bool true)),0,(gU.getD 4 default).pos,(gU.getD 4 default).after,none⟩:=by kernel_rfl
theorem abH:List.range gU.size=[0,1,2,3,4]:=by kernel_rfl
theorem aea:mF K.P 87=some (false,1):=by kernel_rfl
theorem vT3:mF K.P 3=some (false,1):=by kernel_rfl
theorem vT4:mF K.P 4=some (false,1):=by kernel_rfl
theorem abG:List.range qF.size=[0,1]:=by kernel_rfl
theorem HU {nt id:Nat} {ops:Array Oper} {Q:Qx} {ρ:Env} {U:St} (cr:jY nt ops=true) (h:ua K [] [] ops ops.toList ρ U Q.n Q.p):bo K nt .bare (.region id ops false) Q.q ρ U :=
 yz (nt:=nt) EM (.region id ops false) (.rg [] [] none) false .bare Q ρ U cr (fun h=>by cases h) h
noncomputable def YT:Oper:=match Tryz.f98.body with | some (.seq (.region _ o _) _)=>o.getD 0 default | _=>default
theorem Ls:Tryz.f98.body=some (.seq (.region 0 #[⟨some 6,.call { callee:=.builtin .recover,args:=#[],argTypes:=#[] },20,YT.pos,#[],none⟩] false) yg):=by kernel_rfl
theorem YL:(Tryz.f98.name == "runtime.NumGoroutine")=false:=by kernel_rfl
theorem Q9 (captured:Array Value) (w:World):(invoke (.fn (.func 98) captured) #[]).run K.P w=.ok (.enter 98 captured) w:=by
 have hfn:K.P.funcs[98]?=some Tryz.f98:=Tryz.func98
 have h1:Tryz.f98.name ≠ "runtime.NumGoroutine" := by simpa using YL
 simp [invoke,callFunc,hfn,h1,Ls,Result.andThen,run_program]
theorem abo (ev:Operand->Value) (w:World):(execOp ev ⟨some 6,.call { callee:=.builtin .recover,args:=#[],argTypes:=#[] },20,YT.pos,#[],none⟩).run K.P w=.ok .recover w:=by
 simp [execOp,Go.resolve,invoke,builtin,Result.andThen]
theorem Tz {g0 g:Gh} {U:St} {w:World} {ρ:Env} {tmps:Array Value} {a b c:Nat} {x y z:AV} {R:cA->St->Prop} (hle:Gh.Le g0 g) (hs:a8 g U w) (hr:ga g ρ tmps)
 (h4:ρ.get 4=.box a 0) (h5:ρ.get 5=.box b 0) (h6:ρ.get 6=.box c 0) (ha:U.box a=some [x]) (hb:U.box b=some [y]) (hc:U.box c=some [z]) (hR:R (.ret (.aF [x,y,z])) U) :
 LeavesInM Fence.wide 0 K.P Tryz.f54 tmps (nH g0 R) [] .returning w:=by
 have hk:ue K.P ρ U Tryz.f54.results.toList fun vs=>R (.ret (ug vs)) U:=by
  refine u3 _ _ ?_
  refine Eq.mp (show (br (some (false,1)) (ρ.get 4) U fun x=>br (some (false,1)) (ρ.get 5) U fun y=>br (some (false,1)) (ρ.get 6) U fun z=>R (.ret (.aF [x,y,z])) U)=_ by kernel_rfl) ?_
  rw [h4,h5,h6]
  simp only [br,sn ha,sn hb,sn hc,dJ,c7]
  exact hR
 obtain ⟨v,xs,gi,hv,hk⟩:=zH (a:={ tmps:=tmps,defers:=[] }) (fn:=Tryz.f54) hs hr hk
 exact ⟨v,gi,g,U,_,hle,hs,hv,hk⟩
theorem G6:Ib K 136 54:=by
 intro r gf first cap U R sc h g w vs hs hG ha
 have hl:=ha.length
 refine callsIn_of_wp_marks Tryz.func54 Xf trivial ?_
 have Cl:=zR [r,.func (.func gf) first cap] vs (Tryz.f54.ntmps - vs.toArray.size) ha
 have wP:Tryz.f54.ntmps=10:=by kernel_rfl
 have dQ:(vs.toArray++Array.replicate (Tryz.f54.ntmps - vs.toArray.size) undef).size=10:=by rw [wP]; simp at hl ⊢; omega
 generalize vs.toArray++Array.replicate (Tryz.f54.ntmps - vs.toArray.size) undef=tm0 at Cl dQ
 have c0:bo K 10 .bare (.region 0 Nk false) (Qx.q ⟨fun ρ ad=>∃ a b c,U.cY a/\(U.new a (.box [.aV])).cY b/\((U.new a (.box [.aV])).new b (.box [.int .i64 0])).cY c /\
  ρ=(((Env.iJ [r,.func (.func gf) first cap]).put 4 (.box a 0)).put 5 (.box b 0)).put 6 (.box c 0)/\ad=(((U.new a (.box [.aV])).new b (.box [.int .i64 0])).new c (.box [.bool false])),fun _ _ _=>False,fun _ _=>False,fun _ _=>False⟩)
  (Env.iJ [r,.func (.func gf) first cap]) U:=by
  refine HU (by kernel_rfl) ?_
  refine Eq.mp (show (∀ a,U.cY a->∀ b,(U.new a (.box [.aV])).cY b->∀ c,((U.new a (.box [.aV])).new b (.box [.int .i64 0])).cY c ->
   (fun (ρ:Env) (ad:St)=>∃ a b c,U.cY a/\(U.new a (.box [.aV])).cY b/\((U.new a (.box [.aV])).new b (.box [.int .i64 0])).cY c /\
   ρ=(((Env.iJ [r,.func (.func gf) first cap]).put 4 (.box a 0)).put 5 (.box b 0)).put 6 (.box c 0)/\ad=(((U.new a (.box [.aV])).new b (.box [.int .i64 0])).new c (.box [.bool false])))
    ((((Env.iJ [r,.func (.func gf) first cap]).put 4 (.box a 0)).put 5 (.box b 0)).put 6 (.box c 0)) (((U.new a (.box [.aV])).new b (.box [.int .i64 0])).new c (.box [.bool false])))=_ by kernel_rfl) ?_
  exact fun a ha b hb c hc=>⟨a,b,c,ha,hb,hc,rfl,rfl⟩
 refine wpIn_seq (wpIn_mono (c0 g w { tmps:=tm0,defers:=[] } none hs hG Cl dQ trivial) ?_)
 rintro e a1 w1 ⟨n1,g1,aP,ρ1,ms,d1,m1,l1,s1,r1,q1⟩
 have xI:ms=[]:=m1.none rfl
 subst xI
 simp only [lq,kK] at d1
 cases e <;> simp only [Fk,Qx.q] at q1
 case panic=>obtain ⟨_,_,_,_,hf⟩:=q1; exact hf.elim
 obtain ⟨a,b,c,fa,fb,fc,rfl,rfl⟩:=q1
 have SG:=hG.mono l1
 refine wpIn_seq (wpIn_region ?_)
 rw [abG]
 simp only [wpOpsIn,U6,U7,Region.wanted,if_true]
 have h4:=r1 4; have h5:=r1 5; have h6:=r1 6; have h1:=r1 1
 simp only [Env.put,Env.iJ] at h4 h5 h6 h1
 have h4:ay g1 (.box a 0) (a1.tmps.getD 4 undef):=h4
 have h5:ay g1 (.box b 0) (a1.tmps.getD 5 undef):=h5
 have h6:ay g1 (.box c 0) (a1.tmps.getD 6 undef):=h6
 refine ⟨fun _ _=>trivial,?_⟩
 let fv:Value:=.func (.func 98) #[] #[a1.tmps.getD 4 undef,a1.tmps.getD 5 undef,a1.tmps.getD 6 undef]
 have hmk:(Oper.semAt Fence.wide.round a1.eval ⟨some 7,.makeFunc (.func 98) #[] #[.tmp 4,.tmp 5,.tmp 6],1,(qF.getD 0 default).pos,#[],none⟩).run K.P w1=.ok (.value fv) w1:=by
  simp [Oper.semAt,execOp,fv,Act.eval,Fence.wide,Instr.makeFunc,Result.andThen]
 rw [hmk,Oper.uponIn_value]
 have e7:(a1.put (some 7) fv).eval (.tmp 7)=fv:=by
  show (a1.tmps.setIfInBounds 7 fv).getD 7 undef=fv
  simp [n1]
 refine ⟨fun _ _=>trivial,?_⟩
 have FB:(Oper.semAt Fence.wide.round (a1.put (some 7) fv).eval ⟨none,.defer { callee:=.value (.tmp 7),args:=#[],argTypes:=#[] },0,(qF.getD 1 default).pos,#[⟨0,.data⟩],none⟩).run K.P w1
  = .ok (.defer { target:=.fn (.func 98) #[a1.tmps.getD 4 undef,a1.tmps.getD 5 undef,a1.tmps.getD 6 undef],args:=#[] }) w1:=by
  simp [Oper.semAt,execOp,Go.resolve,e7,Fence.wide,Deferred.ofValue,Result.andThen]; simp [fv]
 rw [FB,Oper.uponIn_defer]
 show (Code.seq (.region 2 gU false) .ret).wpIn _ _ _ _ _ _
 let dd:Deferred:={ target:=.fn (.func 98) #[a1.tmps.getD 4 undef,a1.tmps.getD 5 undef,a1.tmps.getD 6 undef],args:=#[] }
 let a2:Act:={ tmps:=a1.tmps.setIfInBounds 7 fv,defers:=dd::a1.defers }
 show (Code.seq (.region 2 gU false) .ret).wpIn Fence.wide 0 K.P _ a2 w1
 let pT:Env:=((((Env.iJ [r,.func (.func gf) first cap]).put 4 (.box a 0)).put 5 (.box b 0)).put 6 (.box c 0)).put 7 .any
 have r2:ga g1 pT a2.tmps:=r1.put (by rw [n1]; decide) (by simp only [ay])
 let bZ:St:=((U.new a (.box [.aV])).new b (.box [.int .i64 0])).new c (.box [.bool false])
 have ab:a ≠ b:=fun e=>by subst e; simp [St.cY,St.new] at fb
 have ac:a ≠ c:=fun e=>by
  subst e
  have:=fc.1
  simp only [St.new,if_true] at this
  split at this <;> cases this
 have bc:b ≠ c:=fun e=>by subst e; simp [St.cY,St.new] at fc
 have n2:a2.tmps.size=10:=by show (a1.tmps.setIfInBounds 7 fv).size=10; simp [n1]
 have d2:a2.defers=[dd]:=by show dd::a1.defers=_; rw [d1]
 have g4':a2.tmps.getD 4 undef=a1.tmps.getD 4 undef:=by show (a1.tmps.setIfInBounds 7 fv).getD 4 undef=_; simp
 have g5':a2.tmps.getD 5 undef=a1.tmps.getD 5 undef:=by show (a1.tmps.setIfInBounds 7 fv).getD 5 undef=_; simp
 have g6':a2.tmps.getD 6 undef=a1.tmps.getD 6 undef:=by show (a1.tmps.setIfInBounds 7 fv).getD 6 undef=_; simp
 have deferred:∀ {a3:Act} {g3:Gh} {cC:St} {w3:World} {x:AV} {v:Value} {u u':FrameMode} {Rn:St->Prop},Gh.Le g1 g3->a3.defers=[dd]->a8 g3 cC w3->ay g3 x v->((u=.returning/\v=.nilIface/\u'=.returning)\/(u=.panicking [{ v,recovered:=false }]/\u'=.panicking [{ v,recovered:=true }])) ->
  Jc (.box a 0) (.box b 0) (.box c 0) x Rn cC->(∀ g4 dm w4,Gh.Le g3 g4->a8 g4 dm w4->Rn dm->LeavesInM Fence.wide 0 K.P Tryz.f54 a3.tmps (nH g R) [] (settle u') w4) ->
  LeavesInM Fence.wide 0 K.P Tryz.f54 a3.tmps (nH g R) a3.defers u w3:=by
  intro a3 g3 cC w3 x v u u' Rn l3 d3 s3 hx hu hr hk
  rw [d3]
  simp only [LeavesInM]
  have aaY:az g3 [.box a 0,.box b 0,.box c 0] [a1.tmps.getD 4 undef,a1.tmps.getD 5 undef,a1.tmps.getD 6 undef]:=by
   simp only [az]
   exact ⟨_,_,rfl,h4.mono l3,_,_,rfl,h5.mono l3,_,_,rfl,h6.mono l3,rfl⟩
  refine ⟨by rcases hu with ⟨rfl,_⟩ | ⟨rfl,_⟩ <;> simp,.inr ⟨fun hd=>by simp [Fence.wide] at hd,.func 98,_,98,_,rfl,Q9 _ _,fun _ _=>trivial,?_⟩⟩
  have:=Vn (C:=K) (f:=98) (fn:=Tryz.f98) (id:=0) (d:=6) (vs:=[a1.tmps.getD 4 undef,a1.tmps.getD 5 undef,a1.tmps.getD 6 undef]) (args:=[.box a 0,.box b 0,.box c 0]) (hf:=Tryz.func98) (hb:=Ls) (hres:=by kernel_rfl) (hop:=abo) (hd:=rfl) (hdn:=by decide +kernel) (hg:=rfl)
   (hlen:=Nat.le_of_ble_eq_true (n:=3) (m:=Tryz.f98.ntmps) (by kernel_rfl)) s3 (SG.mono l3) aaY hx hu Rn (Y9 hr)
  refine CallsDIn.mono this ?_
  rintro e u2 w4 ⟨v',rfl,rfl,g4,dm,l4,s4,hn⟩
  exact hk g4 dm w4 l4 s4 hn
 refine wpIn_seq (wpIn_region ?_)
 rw [abH]
 simp only [wpOpsIn,U8,U9,Va,Vb,Vc,Region.wanted,if_true]
 refine oP (fr:=none) (C:=K) (nt:=10) (g:=g1) (U:=bZ) (ρ:=pT) (mu:=false) (ds:=[]) (K:=fun x s=>x=.func (.func gf) first cap/\s=bZ) (Kp:=fun _ _=>False) (by rfl) s1 SG r2 n2 ?_ ?_ (fun _ _ _ _ _ _ _ _ hf=>hf.elim)
 . exact ⟨rfl,rfl⟩
 rintro g2 ad w2 x v l2 s2 hx ⟨rfl,rfl⟩
 have r3:ga g2 (pT.put 8 (.func (.func gf) first cap)) (a2.put (some 8) v).tmps:=(r2.mono l2).put (by rw [n2]; decide) hx
 have n3:(a2.put (some 8) v).tmps.size=10:=by rw [(ni _ _ _).2]; exact n2
 refine oP (fr:=none) (C:=K) (nt:=10) (g:=g2) (U:=bZ) (ρ:=pT.put 8 (.func (.func gf) first cap)) (mu:=false) (ds:=[]) (K:=fun x s=>G5 136 a b c R (.ret x) s) (Kp:=fun x s=>G5 136 a b c R (.panic x) s) (by rfl) s2 (SG.mono l2) r3 n3 ?_ ?_ ?_
 . show ((gr K.P (.func (.func gf) first cap) []).wp K bZ _ _)
   simp only [gr,sc,if_true,jW,ia]
   refine (h a b c fa fb fc).mono fun res ad hres=>?_
   cases res <;> exact hres
 . rintro g3 cC w3 x v3 l3 s3 Ys ⟨Ta,⟨xa,ba⟩,⟨xb,bb⟩,⟨xc,bcx⟩,hR⟩
   have hcv:au x=[x]:=by cases x <;> first | rfl | cases Ta
   have o1:x.cQ=true:=by cases x <;> first | rfl | cases Ta
   have r4:ga g3 ((pT.put 8 (.func (.func gf) first cap)).put 9 x) ((a2.put (some 8) v).put (some 9) v3).tmps:=(r3.mono l3).put (by rw [n3]; decide) Ys
   have n4:((a2.put (some 8) v).put (some 9) v3).tmps.size=10:=by rw [(ni _ _ _).2]; exact n3
   have XC:=SG.mono (l2.trans l3)
   refine oP (fr:=none) (C:=K) (nt:=10) (g:=g3) (U:=cC) (ρ:=(pT.put 8 (.func (.func gf) first cap)).put 9 x) (mu:=false) (ds:=[]) (K:=fun y s=>s=cC.bW a [x]) (Kp:=fun _ _=>False) (by rfl) s3 XC r4 n4 ?_ ?_ (fun _ _ _ _ _ _ _ _ hf=>hf.elim)
   . rw [<- ow]
     show (aJ (mF K.P 87) (.box a 0) x cC).wp K cC _ _
     rw [aea,lB ba]
     simp only [wp_cond,kB,hcv]
     exact ⟨⟨o1,rfl,by simp⟩,rfl⟩
   rintro g4 _ w4 _ _ l4 s4 _ rfl
   refine oP (fr:=none) (C:=K) (nt:=10) (g:=g4) (U:=cC.bW a [x]) (ρ:=(pT.put 8 (.func (.func gf) first cap)).put 9 x) (mu:=false) (ds:=[]) (K:=fun y s=>s=(cC.bW a [x]).bW b [.int .i64 0]) (Kp:=fun _ _=>False) (by rfl) s4 (XC.mono l4) (r4.mono l4) n4 ?_ ?_ (fun _ _ _ _ _ _ _ _ hf=>hf.elim)
   . rw [<- ow]
     show (aJ (mF K.P 3) (.box b 0) (.int .i64 0) (cC.bW a [x])).wp K _ _ _
     have:(cC.bW a [x]).box b=some [xb]:=by simp only [St.bW]; rw [p4,if_neg (Ne.symm ab)]; exact bb
     rw [vT3,lB this]
     simp only [wp_cond,kB]
     exact ⟨by simp,rfl⟩
   rintro g5 _ w5 _ _ l5 s5 _ rfl
   refine oP (fr:=none) (C:=K) (nt:=10) (g:=g5) (U:=(cC.bW a [x]).bW b [.int .i64 0]) (ρ:=(pT.put 8 (.func (.func gf) first cap)).put 9 x) (mu:=false) (ds:=[]) (K:=fun y s=>s=((cC.bW a [x]).bW b [.int .i64 0]).bW c [.bool true]) (Kp:=fun _ _=>False) (by rfl) s5 (XC.mono (l4.trans l5)) (r4.mono (l4.trans l5)) n4 ?_ ?_ (fun _ _ _ _ _ _ _ _ hf=>hf.elim)
   . rw [<- ow]
     show (aJ (mF K.P 4) (.box c 0) (.bool true) ((cC.bW a [x]).bW b [.int .i64 0])).wp K _ _ _
     have:((cC.bW a [x]).bW b [.int .i64 0]).box c=some [xc]:=by simp only [St.bW]; rw [p4,if_neg (Ne.symm bc),p4,if_neg (Ne.symm ac)]; exact bcx
     rw [vT4,lB this]
     simp only [wp_cond,kB]
     exact ⟨by simp,rfl⟩
   rintro g6 _ w6 _ _ l6 s6 _ rfl
   show Code.wpIn Fence.wide 0 K.P .ret _ _ _
   refine wpIn_ret ?_
   have l16:=l2.trans (l3.trans (l4.trans (l5.trans l6)))
   refine deferred (a3:=(a2.put (some 8) v).put (some 9) v3) (x:=.cJ) (v:=.nilIface) (u:=.returning) (u':=.returning) (Rn:=fun s=>s=((cC.bW a [x]).bW b [.int .i64 0]).bW c [.bool true]) l16 d2 s6 (by simp only [ay]) (.inl ⟨rfl,rfl,rfl⟩) (Vl rfl) ?_
   rintro g7 iw w7 l7 s7 rfl
   exact Tz (l1.trans (l16.trans l7)) s7 (r4.mono ((l4.trans (l5.trans l6)).trans l7)) rfl rfl rfl (by simp [St.bW,ac,ab]) (by simp [St.bW,bc]) (by simp [St.bW]) hR
 . rintro g3 cC w3 x v3 l3 s3 Ys ⟨at_,rfl,⟨xa,ka⟩,⟨xb,kb⟩,⟨xc,kc⟩,hR⟩
   show LeavesInM Fence.wide 0 K.P Tryz.f54 (a2.put (some 8) v).tmps (nH g R) (a2.put (some 8) v).defers _ w3
   refine deferred (a3:=a2.put (some 8) v) (u:=.panicking [{ v:=v3,recovered:=false }]) (u':=.panicking [{ v:=v3,recovered:=true }]) (Rn:=fun s=>∃ q,cC.cY q/\s=((((cC.new q (.box [.int .i64 at_])).bW a [.aV]).bW b [.int .i64 at_]).bW c [.bool false])) (l2.trans l3) d2 s3 Ys (.inr ⟨rfl,rfl⟩) (Nx ka kb kc fun q hq=>⟨q,hq,rfl⟩) ?_
   rintro g4 dm w4 l4 s4 ⟨q,hq,rfl⟩
   exact Tz (l1.trans ((l2.trans l3).trans l4)) s4 ((r3.mono l3).mono l4) rfl rfl rfl (by simp [St.bW,ac,ab]) (by simp [St.bW,bc]) (by simp [St.bW]) (hR q hq)
end Go.Rip
namespace Go.Rip
open Go.Proofs
abbrev cu:An:=.rg [] [] none
abbrev bf (a b:An):An:=.sq none a b
abbrev aj (b:An):An:=.sq none (.rg [] [] none) b
abbrev aM:BT:=BT.mk false false false none false
abbrev aA:Option (Bool × Nat):=some (false,1)
theorem bD {f:FuncId} {args:List AV} {R:cA->St->Prop} {U:St} {P:Prop} (fn:Func) (an:An) (h:P) (h1:K.P.funcs[f]?=some fn:=by kernel_rfl) (h2:okF fn an args.length=true:=by kernel_rfl) (h3:P=Js K fn an args R U:=by kernel_rfl):ae K f args U R :=
 ae.U4 EM an h1 h2 (Eq.mp h3 h)
end Go.Rip
