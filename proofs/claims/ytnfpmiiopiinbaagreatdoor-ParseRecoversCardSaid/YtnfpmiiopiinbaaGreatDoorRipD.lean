/- Lemmas for the proof: no conditions. -/
import Derived.Test.YtnfpmiiopiinbaaGreatDoorRipZz
import Derived.KernelRfl
import Derived.Lib.LaidTab
import Derived.Lib.ItoaNum
import Derived.Test.YtnfpmiiopiinbaaGreatDoorProg
import Derived.Test.YtnfpmiiopiinbaaGreatDoorRipC
set_option linter.unusedVariables false
set_option linter.unusedSimpArgs false
set_option linter.loopingSimpArgs false
namespace Go.Rip
def w_:List UInt8:=[]
def pL:List UInt8:=[10]
def jU:List UInt8:=[10,100,101,102,32]
def qI:List UInt8:=[33]
def jx:List UInt8:=[40]
def gE:List UInt8:=[41]
def yb:List UInt8:=[42]
def yc:List UInt8:=[43]
def AY:List UInt8:=[44]
def yd:List UInt8:=[45]
def gJ:List UInt8:=[45,62]
def DF:List UInt8:=[46]
def mQ:List UInt8:=[58]
def cJ:List UInt8:=[58,61]
def j9:List UInt8:=[59]
def ye:List UInt8:=[60]
def pM:List UInt8:=[61]
def da:List UInt8:=[61,60,43,45,42,33,40,41,123,125,44,59,58,46]
def yf:List UInt8:=[123]
def DG:List UInt8:=[125]
def AZ:List UInt8:=[97,110,100]
def F5:List UInt8:=[97,115]
def F6:List UInt8:=[98,111,111,108]
def F7:List UInt8:=[99,101,108,108]
def py:List UInt8:=[99,104,111,111,115,101]
def J7:List UInt8:=[99,111,109]
def fA:List UInt8:=[100,101,102]
def F9:List UInt8:=[100,101,102,32]
def Ga:List UInt8:=[100,111]
def mC:List UInt8:=[101,108,115,101]
def ef:List UInt8:=[101,120,112,111,114,116]
def gK:List UInt8:=[102,97,108,115,101]
def Gb:List UInt8:=[102,110]
def J9:List UInt8:=[103,101,116]
def mD:List UInt8:=[104,97,110,103]
def zC:List UInt8:=[105,102]
def ep:List UInt8:=[105,109,112,111,114,116]
def tc:List UInt8:=[105,110]
def Ka:List UInt8:=[105,110,116]
def o4:List UInt8:=[106,117,109,112]
def qO:List UInt8:=[108,97,98,101,108]
def yh:List UInt8:=[110,101,119]
def DI:List UInt8:=[110,111,116]
def pz:List UInt8:=[110,111,116,105,99,101]
def ac6:List UInt8:=[111,102]
def Gc:List UInt8:=[111,114]
def Kc:List UInt8:=[112,117,116]
def kJ:List UInt8:=[115,107,105,112]
def xA:List UInt8:=[116,104,101,110]
def gr:List UInt8:=[116,114,117,101]
def pA:List UInt8:=[119,104,105,108,101]
end Go.Rip
namespace Go.Rip
open Go.Proofs
def tg:List AV:=(List.range 256).map λ c=>.int .u8 (if c=9\/c=10\/c=11\/c=12\/c=13\/c=32 then 1 else 0)
def tP:List AV:=(List.range 20).map λ c=>.int .u64 (10 ^ c:Nat)
noncomputable def K:ck:=⟨Tryz.prog,λ i=>if i=0 then .ca tg else if i=7 then .ca tP else .any,λ i=>if i=7 then some (Lib.pow10Tab.map λ z=>Value.int .u64 z).toArray else none⟩
theorem BZ:K.P.follows .mixedOrders=true:=by show Tryz.prog.follows .mixedOrders=true; kernel_rfl
end Go.Rip
set_option maxRecDepth 100000
namespace Go.Rip
open Go.Proofs Go.RowKit
noncomputable def xm:Code:=match Tryz.f98.body with|some (.seq _ c)=>c|_=>.skip
def OL:An:=.bk (.sq none (.rg [] [] none) (.cd (.rg [] [] none) (.sq none (.rg [] [] none) (.cd (.sq none (.rg [] [] none) (.rg [] [] (some ⟨[(true,0),(true,1),(false,2),(false,3),(false,4)],[⟨4096,16,0⟩,⟨8192,4096,1⟩,⟨0,1,0⟩,⟨0,8194,7⟩,⟨0,4,15⟩]⟩))) (.sq none (.rg [] [] none) (.rg [] [] none))))))
def Ia (a0 a1 a2 x:AV) (Rn:St->Prop) (U:St):Prop :=
 (aw .eql (BT.mk false true false none false) true x AV.cS).wp K U (λ v8 U =>
 aA v8 (
  Rn U) (
  (s9 (some (AV.agg [AV.int .i64 0])) x 136 true).wp K U (λ v9 U =>
  (aK v9 1).wp K U (λ v10 U =>
  (aK v9 0).wp K U (λ v11 U =>
  aA v10 (
   (ay.cB [AV.int .i64 0]).wp K U (λ v4 U =>
   (aG (some (true,1)) v4 v11 U).wp K U (λ _ U =>
   (λ az:St =>
   ao K (ah (some 0) v4) (λ v12 =>
   ao K (ar (some (false,1)) v12 az) (λ cF =>
   (aG (some (false,1)) a0 AV.aU U).wp K U (λ _ U=>cE ((dH v12++[])++[]) az U /\
   (aG (some (false,1)) a1 cF U).wp K U (λ _ U=>cE ((dH v12++[])++[]) az U /\
   (aG (some (false,1)) a2 (AV.bool false) U).wp K U (λ _ U =>
   Rn U) (λ _ _=>False)) (λ _ _=>False)) (λ _ _=>False)))) U) (λ _ _=>False)) (λ _ _=>False)) (
   (rB x).wp K U (λ _ U =>
   Rn U) (λ _ _=>False))) (λ _ _=>False)) (λ _ _=>False)) (λ _ _=>False))) (λ _ _=>False)
theorem WX {a0 a1 a2 x:AV} {Rn:St->Prop} {U:St} (h:Ia a0 a1 a2 x Rn U):bo K 14 .bare xm (Q0 Rn) ((Env.gU [a0,a1,a2]).put 6 x) U:=by
 have h2:lz K xm OL ⟨λ _ U=>Rn U,λ _ _ _=>False,λ _ U=>Rn U,λ _ _=>False⟩ ((Env.gU [a0,a1,a2]).put 6 x) U :=
  Eq.mp (show Ia a0 a1 a2 x Rn U=lz K xm OL ⟨λ _ U=>Rn U,λ _ _ _=>False,λ _ U=>Rn U,λ _ _=>False⟩ ((Env.gU [a0,a1,a2]).put 6 x) U by kernel_rfl) h
 refine (xC (nt:=14) BZ xm OL false .bare _ _ _ (by kernel_rfl) (λ h=>by cases h) h2).mono λ e ρ U he=>?_;cases e with
 | normal=>exact he
 | ret=>exact he
 | exit i=>exact he.elim
 | panic x=>exact he.elim
theorem St.cV.ne {U:St} {q b:Nat} {l:List AV} (h:U.cV q) (hb:U.box b=some l):b≠q:=λ e=>by
 subst e;obtain⟨y,this,_⟩:=St.qR hb;rw[h.1]at this; cases this
@[simp] theorem pa (U:St) (b y:Nat) (l:List AV):(U.set b (.box l)).box y=if y=b then some l else U.box y:=by
 simp only[St.box,St.set]; by_cases h:y=b<;>simp[h]
@[simp] theorem Bh (U:St) (b y:Nat) (l:List AV):(U.new b (.box l)).box y=if y=b then some l else U.box y:=by
 simp only[St.box,St.new]; by_cases h:y=b<;>simp[h]
theorem Tt {a0 a1 a2:AV} {Rn:St->Prop} {U:St} (h:Rn U):Ia a0 a1 a2 .cS Rn U:=by
 show ((true=true->Rn U)/\_);exact⟨λ _=>h,λ h=>by cases h⟩
theorem Mi {a b c:Nat} {at_:Int} {x y z:AV} {Rn:St->Prop} {U:St} (ha:U.box a=some [x]) (hb:U.box b=some [y]) (hc:U.box c=some [z])
 (h:∀ q,U.cV q->Rn ((((U.new q (.box [.int .i64 at_])).bM a [.aU]).bM b [.int .i64 at_]).bM c [.bool false])):Ia (.box a 0) (.box b 0) (.box c 0) (.iface 136 (.agg [.int .i64 at_])) Rn U:=by
 have e1:(aw .eql (BT.mk false true false none false) true (.iface 136 (.agg [.int .i64 at_])) AV.cS)=.val (.bool false):=rfl;have e2:(s9 (some (AV.agg [AV.int .i64 0])) (.iface 136 (.agg [.int .i64 at_])) 136 true)=.val (.aQ [.agg [.int .i64 at_],.bool true]):=rfl;simp only[Ia,e1,e2,ak,aW,a8,bh,List.drop_succ_cons,dN,dj,nK];intro q hq;have qa:=hq.ne ha;have qb:=hq.ne hb;have qc:=hq.ne hc;have s1:(U.new q (.box [AV.int .i64 0])).box q=some [AV.int .i64 0]:=by simp
 simp only[NV.at];rw[kO s1];simp only[wp_cond,jL];refine⟨by simp,?_⟩;simp only[aN,aD];have e3:(U.new q (.box [AV.int .i64 0])).set q (.box (ax [AV.int .i64 0] 0 (au (.agg [.int .i64 at_]))))=U.new q (.box [.int .i64 at_]):=by
  simp only[St.set,St.new,St.mk.injEq,and_true];funext y;split<;>rfl
 rw[e3];have s2:(U.new q (.box [AV.int .i64 at_])).box q=some [AV.int .i64 at_]:=by simp
 rw[rp s2];simp only[Nat.add_zero,dN,dj,aD];have s3:(U.new q (.box [AV.int .i64 at_])).box a=some [x]:=by rw[Bh,if_neg qa]; exact ha
 rw[kO s3];simp only[wp_cond,jL,cE,dH,jn,lN,forall_eq];refine⟨by simp,by simp[St.set,Ne.symm qa],?_⟩;have s4:((U.new q (.box [AV.int .i64 at_])).set a (.box (ax [x] 0 (au .aU)))).box b=some [y]\/b=a:=by
  by_cases e:b=a
  . exact .inr e
  . left; rw[pa,if_neg e,Bh,if_neg qb]; exact hb
 have s4':∃ y',((U.new q (.box [AV.int .i64 at_])).set a (.box (ax [x] 0 (au .aU)))).box b=some [y']:=by
  rcases s4 with s4|rfl
  . exact⟨_,s4⟩
  . exact⟨_,by rw[pa,if_pos rfl]; rfl⟩
 obtain⟨y',s4⟩:=s4';rw[kO s4];simp only[wp_cond,jL];refine⟨by simp,by simp[St.set,Ne.symm qa,Ne.symm qb],?_⟩;have s5':∃ z',(((U.new q (.box [AV.int .i64 at_])).set a (.box (ax [x] 0 (au .aU)))).set b (.box (ax [y'] 0 (au (.int .i64 at_))))).box c=some [z']:=by
  rw[pa];split
  . exact⟨_,rfl⟩
  . rw[pa];split
    . exact⟨_,rfl⟩
    . rw[Bh,if_neg qc]; exact⟨_,hc⟩
 obtain⟨z',s5⟩:=s5';rw[kO s5];simp only[wp_cond,jL];exact⟨by simp,h q hq⟩
end Go.Rip
set_option maxRecDepth 100000
namespace Go.Rip
open Go.Proofs Go.RowKit
noncomputable def L6:Array Oper:=match Tryz.f54.body with|some (.seq (.region _ o _) _)=>o|_=>#[]
noncomputable def pZ:Array Oper:=match Tryz.f54.body with|some (.seq _ (.seq (.region _ o _) _))=>o|_=>#[]
noncomputable def gn:Array Oper:=match Tryz.f54.body with|some (.seq _ (.seq _ (.seq (.region _ o _) _)))=>o|_=>#[]
theorem U3:Tryz.f54.body=some (.seq (.region 0 L6 false) (.seq (.region 1 pZ false) (.seq (.region 2 gn false) .ret))):=by kernel_rfl
theorem Ti:pZ[0]?=some ⟨some 7,.makeFunc (.func 98) #[] #[.tmp 4,.tmp 5,.tmp 6],1,(pZ.getD 0 default).pos,#[],none⟩:=by kernel_rfl
theorem Tj:pZ[1]?=some ⟨none,.defer { callee:=.value (.tmp 7),args:=#[],argTypes:=#[] },0,(pZ.getD 1 default).pos,#[⟨0,.data⟩],none⟩:=by kernel_rfl
theorem Tl:gn[0]?=some ⟨some 8,.move (.tmp 1),90,(gn.getD 0 default).pos,(gn.getD 0 default).after,none⟩:=by kernel_rfl
theorem Tm:gn[1]?=some ⟨some 9,.call { callee:=.value (.tmp 8),args:=#[],argTypes:=#[] },87,(gn.getD 1 default).pos,(gn.getD 1 default).after,none⟩:=by kernel_rfl
theorem Tn:gn[2]?=some ⟨none,.store 87 (.tmp 4) (.tmp 9),0,(gn.getD 2 default).pos,(gn.getD 2 default).after,none⟩:=by kernel_rfl
theorem To:gn[3]?=some ⟨none,.store 3 (.tmp 5) (.const (.int .i64 0)),0,(gn.getD 3 default).pos,(gn.getD 3 default).after,none⟩:=by kernel_rfl
theorem Tp:gn[4]?=some ⟨none,.store 4 (.tmp 6) (.const (.bool true)),0,(gn.getD 4 default).pos,(gn.getD 4 default).after,none⟩:=by kernel_rfl
theorem Y9:List.range gn.size=[0,1,2,3,4]:=by kernel_rfl
theorem ac5:lR K.P 87=some (false,1):=by kernel_rfl
theorem vT3:lR K.P 3=some (false,1):=by kernel_rfl
theorem vT4:lR K.P 4=some (false,1):=by kernel_rfl
theorem Y8:List.range pZ.size=[0,1]:=by kernel_rfl
theorem GO {nt id:Nat} {ops:Array Oper} {Q:Qx} {ρ:Env} {U:St} (cw:jt nt ops=true) (h:sT K [] [] ops ops.toList ρ U Q.n Q.p):bo K nt .bare (.region id ops false) Q.q ρ U :=
 xC (nt:=nt) BZ (.region id ops false) (.rg [] [] none) false .bare Q ρ U cw (λ h=>by cases h) h
noncomputable def WQ:Oper:=match Tryz.f98.body with|some (.seq (.region _ o _) _)=>o.getD 0 default|_=>default
theorem Kt:Tryz.f98.body=some (.seq (.region 0 #[⟨some 6,.call { callee:=.builtin .recover,args:=#[],argTypes:=#[] },20,WQ.pos,#[],none⟩] false) xm):=by kernel_rfl
theorem WH:(Tryz.f98.name == "runtime.NumGoroutine")=false:=by kernel_rfl
theorem Px (captured:Array Value) (w:World):(invoke (.fn (.func 98) captured) #[]).run K.P w=.ok (.enter 98 captured) w:=by
 have hfn:K.P.funcs[98]?=some Tryz.f98:=Tryz.func98
 have h1:Tryz.f98.name ≠ "runtime.NumGoroutine" := by simpa using WH
 simp[invoke,callFunc,hfn,h1,Kt,Result.andThen,run_program]
theorem YX (ev:Operand->Value) (w:World):(execOp ev ⟨some 6,.call { callee:=.builtin .recover,args:=#[],argTypes:=#[] },20,WQ.pos,#[],none⟩).run K.P w=.ok .recover w:=by
 simp[execOp,Go.resolve,invoke,builtin,Result.andThen]
theorem RR {g0 g:Gh} {U:St} {w:World} {ρ:Env} {tmps:Array Value} {a b c:Nat} {x y z:AV} {R:cM->St->Prop} (hle:Gh.Le g0 g) (hs:aY g U w) (hr:fj g ρ tmps)
 (h4:ρ.get 4=.box a 0) (h5:ρ.get 5=.box b 0) (h6:ρ.get 6=.box c 0) (ha:U.box a=some [x]) (hb:U.box b=some [y]) (hc:U.box c=some [z]) (hR:R (.ret (.aQ [x,y,z])) U) :
 LeavesInM Fence.wide 0 K.P Tryz.f54 tmps (mM g0 R) [] .returning w:=by
 have hk:sV K.P ρ U Tryz.f54.results.toList λ vs=>R (.ret (s0 vs)) U:=by
  refine tS _ _ ?_;refine Eq.mp (show (bE (some (false,1)) (ρ.get 4) U λ x=>bE (some (false,1)) (ρ.get 5) U λ y=>bE (some (false,1)) (ρ.get 6) U λ z=>R (.ret (.aQ [x,y,z])) U)=_ by kernel_rfl) ?_;rw[h4,h5,h6];simp only[bE,rp ha,rp hb,rp hc,dN,dj];exact hR
 obtain⟨v,xs,fD,hv,hk⟩:=yM (a:={ tmps:=tmps,defers:=[] }) (fn:=Tryz.f54) hs hr hk;exact⟨v,fD,g,U,_,hle,hs,hv,hk⟩
theorem zz:GY K 136 54:=by
 intro r gf first cap U R qY h g w vs hs hG ha
 have hl:=ha.length;refine callsIn_of_wp_marks Tryz.func54 U3 trivial ?_;have Bs:=yW [r,.func (.func gf) first cap] vs (Tryz.f54.ntmps-vs.toArray.size) ha
 have hnt:Tryz.f54.ntmps=10:=by kernel_rfl
 have hsz:(vs.toArray++Array.replicate (Tryz.f54.ntmps-vs.toArray.size) undef).size=10:=by rw[hnt]; simp at hl ⊢; omega
 generalize vs.toArray++Array.replicate (Tryz.f54.ntmps-vs.toArray.size) undef=tm0 at Bs hsz;have c0:bo K 10 .bare (.region 0 L6 false) (Qx.q ⟨λ ρ ad=>∃ a b c,U.cV a/\(U.new a (.box [.aU])).cV b/\((U.new a (.box [.aU])).new b (.box [.int .i64 0])).cV c /\
  ρ=(((Env.gU [r,.func (.func gf) first cap]).put 4 (.box a 0)).put 5 (.box b 0)).put 6 (.box c 0)/\ad=(((U.new a (.box [.aU])).new b (.box [.int .i64 0])).new c (.box [.bool false])),λ _ _ _=>False,λ _ _=>False,λ _ _=>False⟩)
  (Env.gU [r,.func (.func gf) first cap]) U:=by
  refine GO (by kernel_rfl) ?_;refine Eq.mp (show (∀ a,U.cV a->∀ b,(U.new a (.box [.aU])).cV b->∀ c,((U.new a (.box [.aU])).new b (.box [.int .i64 0])).cV c ->
   (λ (ρ:Env) (ad:St)=>∃ a b c,U.cV a/\(U.new a (.box [.aU])).cV b/\((U.new a (.box [.aU])).new b (.box [.int .i64 0])).cV c /\
   ρ=(((Env.gU [r,.func (.func gf) first cap]).put 4 (.box a 0)).put 5 (.box b 0)).put 6 (.box c 0)/\ad=(((U.new a (.box [.aU])).new b (.box [.int .i64 0])).new c (.box [.bool false])))
    ((((Env.gU [r,.func (.func gf) first cap]).put 4 (.box a 0)).put 5 (.box b 0)).put 6 (.box c 0)) (((U.new a (.box [.aU])).new b (.box [.int .i64 0])).new c (.box [.bool false])))=_ by kernel_rfl) ?_
  exact λ a ha b hb c hc=>⟨a,b,c,ha,hb,hc,rfl,rfl⟩
 refine wpIn_seq (wpIn_mono (c0 g w { tmps:=tm0,defers:=[] } none hs hG Bs hsz trivial) ?_);rintro e a1 w1 ⟨n1,g1,bF,ρ1,ms,d1,m1,l1,s1,r1,q1⟩;have wu:ms=[]:=m1.none rfl;subst wu;simp only[lO,iK]at d1;cases e<;>simp only[D9,Qx.q]at q1
 case panic=>obtain⟨_,_,_,_,hf⟩:=q1; exact hf.elim
 obtain⟨a,b,c,fa,fb,fc,rfl,rfl⟩:=q1;have Q6:=hG.mono l1;refine wpIn_seq (wpIn_region ?_);rw[Y8];simp only[wpOpsIn,Ti,Tj,Region.wanted,if_true];have h4:=r1 4; have h5:=r1 5; have h6:=r1 6; have h1:=r1 1;simp only[Env.put,Env.gU]at h4 h5 h6 h1;have h4:av g1 (.box a 0) (a1.tmps.getD 4 undef):=h4;have h5:av g1 (.box b 0) (a1.tmps.getD 5 undef):=h5;have h6:av g1 (.box c 0) (a1.tmps.getD 6 undef):=h6;refine⟨λ _ _=>trivial,?_⟩;let fv:Value:=.func (.func 98) #[] #[a1.tmps.getD 4 undef,a1.tmps.getD 5 undef,a1.tmps.getD 6 undef];have hmk:(Oper.semAt Fence.wide.round a1.eval ⟨some 7,.makeFunc (.func 98) #[] #[.tmp 4,.tmp 5,.tmp 6],1,(pZ.getD 0 default).pos,#[],none⟩).run K.P w1=.ok (.value fv) w1:=by
  simp[Oper.semAt,execOp,fv,Act.eval,Fence.wide,Instr.makeFunc,Result.andThen]
 rw[hmk,Oper.uponIn_value];have e7:(a1.put (some 7) fv).eval (.tmp 7)=fv:=by
  show (a1.tmps.setIfInBounds 7 fv).getD 7 undef=fv;simp[n1]
 refine⟨λ _ _=>trivial,?_⟩;have Pj:(Oper.semAt Fence.wide.round (a1.put (some 7) fv).eval ⟨none,.defer { callee:=.value (.tmp 7),args:=#[],argTypes:=#[] },0,(pZ.getD 1 default).pos,#[⟨0,.data⟩],none⟩).run K.P w1
  = .ok (.defer { target:=.fn (.func 98) #[a1.tmps.getD 4 undef,a1.tmps.getD 5 undef,a1.tmps.getD 6 undef],args:=#[] }) w1:=by
  simp[Oper.semAt,execOp,Go.resolve,e7,Fence.wide,Deferred.ofValue,Result.andThen]; simp[fv]
 rw[Pj,Oper.uponIn_defer];show (Code.seq (.region 2 gn false) .ret).wpIn _ _ _ _ _ _;let dd:Deferred:={ target:=.fn (.func 98) #[a1.tmps.getD 4 undef,a1.tmps.getD 5 undef,a1.tmps.getD 6 undef],args:=#[] };let a2:Act:={ tmps:=a1.tmps.setIfInBounds 7 fv,defers:=dd::a1.defers };show (Code.seq (.region 2 gn false) .ret).wpIn Fence.wide 0 K.P _ a2 w1;let o5:Env:=((((Env.gU [r,.func (.func gf) first cap]).put 4 (.box a 0)).put 5 (.box b 0)).put 6 (.box c 0)).put 7 .any
 have r2:fj g1 o5 a2.tmps:=r1.put (by rw[n1]; decide) (by simp only[av]);let cj:St:=((U.new a (.box [.aU])).new b (.box [.int .i64 0])).new c (.box [.bool false]);have ab:a≠b:=λ e=>by subst e; simp[St.cV,St.new]at fb
 have ac:a≠c:=λ e=>by
  subst e;have:=fc.1;simp only[St.new,if_true]at this;split at this<;>cases this
 have bc:b≠c:=λ e=>by subst e; simp[St.cV,St.new]at fc
 have n2:a2.tmps.size=10:=by show (a1.tmps.setIfInBounds 7 fv).size=10; simp[n1]
 have d2:a2.defers=[dd]:=by show dd::a1.defers=_; rw[d1]
 have Zt:a2.tmps.getD 4 undef=a1.tmps.getD 4 undef:=by show (a1.tmps.setIfInBounds 7 fv).getD 4 undef=_; simp
 have Zu:a2.tmps.getD 5 undef=a1.tmps.getD 5 undef:=by show (a1.tmps.setIfInBounds 7 fv).getD 5 undef=_; simp
 have Zv:a2.tmps.getD 6 undef=a1.tmps.getD 6 undef:=by show (a1.tmps.setIfInBounds 7 fv).getD 6 undef=_; simp
 have deferred:∀ {a3:Act} {g3:Gh} {cm:St} {w3:World} {x:AV} {v:Value} {u u':FrameMode} {Rn:St->Prop},Gh.Le g1 g3->a3.defers=[dd]->aY g3 cm w3->av g3 x v->((u=.returning/\v=.nilIface/\u'=.returning)\/(u=.panicking [{ v,recovered:=false }]/\u'=.panicking [{ v,recovered:=true }])) ->
  Ia (.box a 0) (.box b 0) (.box c 0) x Rn cm->(∀ g4 cY w4,Gh.Le g3 g4->aY g4 cY w4->Rn cY->LeavesInM Fence.wide 0 K.P Tryz.f54 a3.tmps (mM g R) [] (settle u') w4) ->
  LeavesInM Fence.wide 0 K.P Tryz.f54 a3.tmps (mM g R) a3.defers u w3:=by
  intro a3 g3 cm w3 x v u u' Rn l3 d3 s3 hx hu hr hk;rw[d3];simp only[LeavesInM];have Yv:aC g3 [.box a 0,.box b 0,.box c 0] [a1.tmps.getD 4 undef,a1.tmps.getD 5 undef,a1.tmps.getD 6 undef]:=by
   simp only[aC];exact⟨_,_,rfl,h4.mono l3,_,_,rfl,h5.mono l3,_,_,rfl,h6.mono l3,rfl⟩
  refine⟨by rcases hu with ⟨rfl,_⟩|⟨rfl,_⟩<;>simp,.inr ⟨λ hd=>by simp[Fence.wide]at hd,.func 98,_,98,_,rfl,Px _ _,λ _ _=>trivial,?_⟩⟩
  have:=Tu (C:=K) (f:=98) (fn:=Tryz.f98) (id:=0) (d:=6) (vs:=[a1.tmps.getD 4 undef,a1.tmps.getD 5 undef,a1.tmps.getD 6 undef]) (args:=[.box a 0,.box b 0,.box c 0]) (hf:=Tryz.func98) (hb:=Kt) (hres:=by kernel_rfl) (hop:=YX) (hd:=rfl) (hdn:=by decide +kernel) (hg:=rfl)
   (hlen:=Nat.le_of_ble_eq_true (n:=3) (m:=Tryz.f98.ntmps) (by kernel_rfl)) s3 (Q6.mono l3) Yv hx hu Rn (WX hr)
  refine CallsDIn.mono this ?_;rintro e u2 w4 ⟨v',rfl,rfl,g4,cY,l4,s4,hn⟩;exact hk g4 cY w4 l4 s4 hn
 refine wpIn_seq (wpIn_region ?_);rw[Y9];simp only[wpOpsIn,Tl,Tm,Tn,To,Tp,Region.wanted,if_true];refine nW (fr:=none) (C:=K) (nt:=10) (g:=g1) (U:=cj) (ρ:=o5) (mu:=false) (ds:=[]) (K:=λ x s=>x=.func (.func gf) first cap/\s=cj) (Kp:=λ _ _=>False) (by rfl) s1 Q6 r2 n2 ?_ ?_ (λ _ _ _ _ _ _ _ _ hf=>hf.elim)
 . exact⟨rfl,rfl⟩
 rintro g2 ad w2 x v l2 s2 hx ⟨rfl,rfl⟩;have r3:fj g2 (o5.put 8 (.func (.func gf) first cap)) (a2.put (some 8) v).tmps:=(r2.mono l2).put (by rw[n2]; decide) hx
 have n3:(a2.put (some 8) v).tmps.size=10:=by rw[(mi _ _ _).2]; exact n2
 refine nW (fr:=none) (C:=K) (nt:=10) (g:=g2) (U:=cj) (ρ:=o5.put 8 (.func (.func gf) first cap)) (mu:=false) (ds:=[]) (K:=λ x s=>FY 136 a b c R (.ret x) s) (Kp:=λ x s=>FY 136 a b c R (.panic x) s) (by rfl) s2 (Q6.mono l2) r3 n3 ?_ ?_ ?_
 . show ((gi K.P (.func (.func gf) first cap) []).wp K cj _ _)
   simp only[gi,qY,if_true,jr,jn];refine (h a b c fa fb fc).mono λ res ad hres=>?_;cases res<;>exact hres
 . rintro g3 cm w3 x v3 l3 s3 Wm ⟨Ry,⟨xa,ba⟩,⟨xb,bb⟩,⟨xc,bcx⟩,hR⟩;have hcv:au x=[x]:=by cases x<;>first|rfl|cases Ry
   have re:x.cA=true:=by cases x<;>first|rfl|cases Ry
   have r4:fj g3 ((o5.put 8 (.func (.func gf) first cap)).put 9 x) ((a2.put (some 8) v).put (some 9) v3).tmps:=(r3.mono l3).put (by rw[n3]; decide) Wm
   have n4:((a2.put (some 8) v).put (some 9) v3).tmps.size=10:=by rw[(mi _ _ _).2]; exact n3
   have Vo:=Q6.mono (l2.trans l3);refine nW (fr:=none) (C:=K) (nt:=10) (g:=g3) (U:=cm) (ρ:=(o5.put 8 (.func (.func gf) first cap)).put 9 x) (mu:=false) (ds:=[]) (K:=λ y s=>s=cm.bM a [x]) (Kp:=λ _ _=>False) (by rfl) s3 Vo r4 n4 ?_ ?_ (λ _ _ _ _ _ _ _ _ hf=>hf.elim)
   . rw[<- nI];show (aG (lR K.P 87) (.box a 0) x cm).wp K cm _ _;rw[ac5,kO ba];simp only[wp_cond,jL,hcv];exact⟨⟨re,rfl,by simp⟩,rfl⟩
   rintro g4 _ w4 _ _ l4 s4 _ rfl;refine nW (fr:=none) (C:=K) (nt:=10) (g:=g4) (U:=cm.bM a [x]) (ρ:=(o5.put 8 (.func (.func gf) first cap)).put 9 x) (mu:=false) (ds:=[]) (K:=λ y s=>s=(cm.bM a [x]).bM b [.int .i64 0]) (Kp:=λ _ _=>False) (by rfl) s4 (Vo.mono l4) (r4.mono l4) n4 ?_ ?_ (λ _ _ _ _ _ _ _ _ hf=>hf.elim)
   . rw[<- nI];show (aG (lR K.P 3) (.box b 0) (.int .i64 0) (cm.bM a [x])).wp K _ _ _;have:(cm.bM a [x]).box b=some [xb]:=by simp only[St.bM]; rw[pa,if_neg (Ne.symm ab)]; exact bb
     rw[vT3,kO this];simp only[wp_cond,jL];exact⟨by simp,rfl⟩
   rintro g5 _ w5 _ _ l5 s5 _ rfl;refine nW (fr:=none) (C:=K) (nt:=10) (g:=g5) (U:=(cm.bM a [x]).bM b [.int .i64 0]) (ρ:=(o5.put 8 (.func (.func gf) first cap)).put 9 x) (mu:=false) (ds:=[]) (K:=λ y s=>s=((cm.bM a [x]).bM b [.int .i64 0]).bM c [.bool true]) (Kp:=λ _ _=>False) (by rfl) s5 (Vo.mono (l4.trans l5)) (r4.mono (l4.trans l5)) n4 ?_ ?_ (λ _ _ _ _ _ _ _ _ hf=>hf.elim)
   . rw[<- nI];show (aG (lR K.P 4) (.box c 0) (.bool true) ((cm.bM a [x]).bM b [.int .i64 0])).wp K _ _ _;have:((cm.bM a [x]).bM b [.int .i64 0]).box c=some [xc]:=by simp only[St.bM]; rw[pa,if_neg (Ne.symm bc),pa,if_neg (Ne.symm ac)]; exact bcx
     rw[vT4,kO this];simp only[wp_cond,jL];exact⟨by simp,rfl⟩
   rintro g6 _ w6 _ _ l6 s6 _ rfl;show Code.wpIn Fence.wide 0 K.P .ret _ _ _;refine wpIn_ret ?_;have l16:=l2.trans (l3.trans (l4.trans (l5.trans l6)));refine deferred (a3:=(a2.put (some 8) v).put (some 9) v3) (x:=.cS) (v:=.nilIface) (u:=.returning) (u':=.returning) (Rn:=λ s=>s=((cm.bM a [x]).bM b [.int .i64 0]).bM c [.bool true]) l16 d2 s6 (by simp only[av]) (.inl ⟨rfl,rfl,rfl⟩) (Tt rfl) ?_;rintro g7 jZ w7 l7 s7 rfl;exact RR (l1.trans (l16.trans l7)) s7 (r4.mono ((l4.trans (l5.trans l6)).trans l7)) rfl rfl rfl (by simp[St.bM,ac,ab]) (by simp[St.bM,bc]) (by simp[St.bM]) hR
 . rintro g3 cm w3 x v3 l3 s3 Wm ⟨at_,rfl,⟨xa,ka⟩,⟨xb,kb⟩,⟨xc,kc⟩,hR⟩;show LeavesInM Fence.wide 0 K.P Tryz.f54 (a2.put (some 8) v).tmps (mM g R) (a2.put (some 8) v).defers _ w3;refine deferred (a3:=a2.put (some 8) v) (u:=.panicking [{ v:=v3,recovered:=false }]) (u':=.panicking [{ v:=v3,recovered:=true }]) (Rn:=λ s=>∃ q,cm.cV q/\s=((((cm.new q (.box [.int .i64 at_])).bM a [.aU]).bM b [.int .i64 at_]).bM c [.bool false])) (l2.trans l3) d2 s3 Wm (.inr ⟨rfl,rfl⟩) (Mi ka kb kc λ q hq=>⟨q,hq,rfl⟩) ?_;rintro g4 cY w4 l4 s4 ⟨q,hq,rfl⟩;exact RR (l1.trans ((l2.trans l3).trans l4)) s4 ((r3.mono l3).mono l4) rfl rfl rfl (by simp[St.bM,ac,ab]) (by simp[St.bM,bc]) (by simp[St.bM]) (hR q hq)
end Go.Rip
namespace Go.Rip
open Go.Proofs
abbrev eg:An:=.rg [] [] none
abbrev aZ (a b:An):An:=.sq none a b
abbrev ai (b:An):An:=.sq none (.rg [] [] none) b
abbrev aR:BT:=BT.mk false false false none false
abbrev aH:Option (Bool×Nat):=some (false,1)
theorem bW {f:FuncId} {args:List AV} {R:cM->St->Prop} {U:St} {P:Prop} (fn:Func) (an:An) (h:P) (h1:K.P.funcs[f]?=some fn:=by kernel_rfl) (h2:okF fn an args.length=true:=by kernel_rfl) (h3:P=Dj K fn an args R U:=by kernel_rfl):ae K f args U R :=
 ae.HW BZ an h1 h2 (Eq.mp h3 h)
end Go.Rip
