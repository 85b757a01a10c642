/- Lemmas for the proof: no conditions. -/
import Derived.Test.YtnfpmiiopiinbaaGreatDoorRipZz
import Derived.KernelRfl
import Derived.Lib.LaidTab
import Derived.Lib.ItoaNum
import Derived.Test.YtnfpmiiopiinbaaGreatDoorProg
import Derived.Test.YtnfpmiiopiinbaaGreatDoorRipC
set_option linter.unusedVariables false
set_option linter.unusedSimpArgs false
set_option linter.loopingSimpArgs false
namespace Go.Rip
def w_ : List UInt8 := []
def yA : List UInt8 := [10]
def o3 : List UInt8 := [33]
def o4 : List UInt8 := [40]
def qA : List UInt8 := [41]
def yB : List UInt8 := [42]
def yC : List UInt8 := [43]
def yD : List UInt8 := [44]
def yE : List UInt8 := [45]
def iK : List UInt8 := [45, 62]
def Bd : List UInt8 := [46]
def yF : List UInt8 := [58]
def cN : List UInt8 := [58, 61]
def ti : List UInt8 := [59]
def yG : List UInt8 := [60]
def yH : List UInt8 := [61]
def cS : List UInt8 := [61, 60, 43, 45, 42, 33, 40, 41, 123, 125, 44, 59, 58, 46]
def yI : List UInt8 := [123]
def Be : List UInt8 := [125]
def Bf : List UInt8 := [97, 110, 100]
def G8 : List UInt8 := [97, 115]
def Uq : List UInt8 := [98, 111, 111, 108]
def pS : List UInt8 := [99, 97, 110, 110, 111, 116, 32, 98, 101, 32, 110, 101, 103, 97, 116, 105, 118, 101]
def Ur : List UInt8 := [99, 101, 108, 108]
def pT : List UInt8 := [99, 104, 111, 111, 115, 101]
def We : List UInt8 := [99, 111, 109]
def vL : List UInt8 := [100, 101, 102]
def Dl : List UInt8 := [100, 111]
def kT : List UInt8 := [101, 108, 115, 101]
def nO : List UInt8 := [101, 120, 112, 111, 114, 116]
def fV : List UInt8 := [102, 97, 108, 115, 101]
def Ha : List UInt8 := [102, 110]
def Hb : List UInt8 := [103, 101, 116]
def kU : List UInt8 := [104, 97, 110, 103]
def zG : List UInt8 := [105, 102]
def nP : List UInt8 := [105, 109, 112, 111, 114, 116]
def ri : List UInt8 := [105, 110]
def Wf : List UInt8 := [105, 110, 116]
def nk : List UInt8 := [106, 117, 109, 112]
def rZ : List UInt8 := [108, 97, 98, 101, 108]
def pU : List UInt8 := [108, 101, 110, 32, 111, 117, 116, 32, 111, 102, 32, 114, 97, 110, 103, 101]
def yK : List UInt8 := [110, 101, 119]
def Hd : List UInt8 := [110, 111, 116]
def pV : List UInt8 := [110, 111, 116, 105, 99, 101]
def Zd : List UInt8 := [111, 102]
def He : List UInt8 := [111, 114]
def Hf : List UInt8 := [112, 117, 116]
def jo : List UInt8 := [115, 107, 105, 112]
def vb : List UInt8 := [116, 104, 101, 110]
def fH : List UInt8 := [116, 114, 117, 101]
def o9 : List UInt8 := [119, 104, 105, 108, 101]
end Go.Rip
namespace Go.Rip
open Go.Proofs
def rk : List AV := (List.range 256).map fun c => .int .u8 (if c = 9 \/ c = 10 \/ c = 11 \/ c = 12 \/ c = 13 \/ c = 32 then 1 else 0)
def rR : List AV := (List.range 20).map fun c => .int .u64 (10 ^ c : Nat)
noncomputable def K : bX := ⟨Tryz.prog, fun i => if i = 0 then .bY rk else if i = 7 then .bY rR else .any, fun i => if i = 7 then some (Lib.pow10Tab.map fun z => Value.int .u64 z).toArray else none⟩
theorem Bk : K.P.follows .mixedOrders = true := by show Tryz.prog.follows .mixedOrders = true; kernel_rfl
end Go.Rip
set_option maxRecDepth 100000
namespace Go.Rip
open Go.Proofs Go.RowKit
noncomputable def uV : Code := match Tryz.f98.body with | some (.seq _ c) => c | _ => .skip
def Lm : An := .bk (.sq none (.rg [] [] none) (.cd (.rg [] [] none) (.sq none (.rg [] [] none) (.cd (.sq none (.rg [] [] none) (.rg [] [] (some ⟨[(true, 0), (true, 1), (false, 2), (false, 3), (false, 4)], [⟨4096, 16, 0⟩, ⟨8192, 4096, 1⟩, ⟨0, 1, 0⟩, ⟨0, 8194, 7⟩, ⟨0, 4, 15⟩]⟩))) (.sq none (.rg [] [] none) (.rg [] [] none))))))
def E6 (a0 a1 a2 x : AV) (Rn : St -> Prop) (U : St) : Prop :=
 (av .eql (BT.mk false true false none false) true x AV.cA).wp K U (fun v8 U =>
 az v8 (
  Rn U) (
  (q9 (some (AV.agg [AV.int .i64 0])) x 136 true).wp K U (fun v9 U =>
  (aV v9 1).wp K U (fun v10 U =>
  (aV v9 0).wp K U (fun v11 U =>
  az v10 (
   (aA.cj [AV.int .i64 0]).wp K U (fun v4 U =>
   (aF (some (true, 1)) v4 v11 U).wp K U (fun _ U =>
   (fun ay : St =>
   ai K (af (some 0) v4) (fun v12 =>
   ai K (aq (some (false, 1)) v12 ay) (fun cb =>
   (aF (some (false, 1)) a0 AV.aT U).wp K U (fun _ U => bG ((bV v12 ++ []) ++ []) ay U /\
   (aF (some (false, 1)) a1 cb U).wp K U (fun _ U => bG ((bV v12 ++ []) ++ []) ay U /\
   (aF (some (false, 1)) a2 (AV.bool false) U).wp K U (fun _ U =>
   Rn U) (fun _ _ => False)) (fun _ _ => False)) (fun _ _ => False)))) U) (fun _ _ => False)) (fun _ _ => False)) (
   (mW x).wp K U (fun _ U =>
   Rn U) (fun _ _ => False))) (fun _ _ => False)) (fun _ _ => False)) (fun _ _ => False))) (fun _ _ => False)
theorem Tc {a0 a1 a2 x : AV} {Rn : St -> Prop} {U : St} (h : E6 a0 a1 a2 x Rn U) : aY K 14 .bare uV (NF Rn) ((Env.gg [a0, a1, a2]).put 6 x) U := by
 have h2 : ko K uV Lm ⟨fun _ U => Rn U, fun _ _ _ => False, fun _ U => Rn U, fun _ _ => False⟩ ((Env.gg [a0, a1, a2]).put 6 x) U :=
  Eq.mp (show E6 a0 a1 a2 x Rn U = ko K uV Lm ⟨fun _ U => Rn U, fun _ _ _ => False, fun _ U => Rn U, fun _ _ => False⟩ ((Env.gg [a0, a1, a2]).put 6 x) U by kernel_rfl) h
 refine (vd (nt := 14) Bk uV Lm false .bare _ _ _ (by kernel_rfl) (fun h => by cases h) h2).mono fun e ρ U he => ?_
 cases e with
 | normal => exact he
 | ret => exact he
 | exit i => exact he.elim
 | panic x => exact he.elim
theorem St.cB.ne {U : St} {q b : Nat} {l : List AV} (h : U.cB q) (hb : U.box b = some l) : b ≠ q := fun e => by
 subst e
 obtain ⟨y, this, _⟩ := St.pd hb
 rw [h.1] at this; cases this
@[simp] theorem nC (U : St) (b y : Nat) (l : List AV) : (U.set b (.box l)).box y = if y = b then some l else U.box y := by
 simp only [St.box, St.set]; by_cases h : y = b <;> simp [h]
@[simp] theorem yU (U : St) (b y : Nat) (l : List AV) : (U.new b (.box l)).box y = if y = b then some l else U.box y := by
 simp only [St.box, St.new]; by_cases h : y = b <;> simp [h]
theorem P6 {a0 a1 a2 : AV} {Rn : St -> Prop} {U : St} (h : Rn U) : E6 a0 a1 a2 .cA Rn U := by
 show ((true = true -> Rn U) /\ _)
 exact ⟨fun _ => h, fun h => by cases h⟩
theorem I8 {a b c : Nat} {at_ : Int} {x y z : AV} {Rn : St -> Prop} {U : St} (ha : U.box a = some [x]) (hb : U.box b = some [y]) (hc : U.box c = some [z])
 (h : ∀ q, U.cB q -> Rn ((((U.new q (.box [.int .i64 at_])).bN a [.aT]).bN b [.int .i64 at_]).bN c [.bool false])) : E6 (.box a 0) (.box b 0) (.box c 0) (.iface 136 (.agg [.int .i64 at_])) Rn U := by
 have e1 : (av .eql (BT.mk false true false none false) true (.iface 136 (.agg [.int .i64 at_])) AV.cA) = .val (.bool false) := rfl
 have e2 : (q9 (some (AV.agg [AV.int .i64 0])) (.iface 136 (.agg [.int .i64 at_])) 136 true) = .val (.aN [.agg [.int .i64 at_], .bool true]) := rfl
 simp only [E6, e1, e2, ah, a7, bq, bL, List.drop_succ_cons, dU, cY, lR]
 intro q hq
 have qa := hq.ne ha
 have qb := hq.ne hb
 have qc := hq.ne hc
 have s1 : (U.new q (.box [AV.int .i64 0])).box q = some [AV.int .i64 0] := by simp
 simp only [NV.at]
 rw [jr s1]
 simp only [wp_cond, iB]
 refine ⟨by simp, ?_⟩
 simp only [aU, aC]
 have e3 : (U.new q (.box [AV.int .i64 0])).set q (.box (aw [AV.int .i64 0] 0 (au (.agg [.int .i64 at_])))) = U.new q (.box [.int .i64 at_]) := by
  simp only [St.set, St.new, St.mk.injEq, and_true]
  funext y
  split <;> rfl
 rw [e3]
 have s2 : (U.new q (.box [AV.int .i64 at_])).box q = some [AV.int .i64 at_] := by simp
 rw [pD s2]
 simp only [Nat.add_zero, dU, cY, aC]
 have s3 : (U.new q (.box [AV.int .i64 at_])).box a = some [x] := by rw [yU, if_neg qa]; exact ha
 rw [jr s3]
 simp only [wp_cond, iB, bG, bV, iI, kM, forall_eq]
 refine ⟨by simp, by simp [St.set, Ne.symm qa], ?_⟩
 have s4 : ((U.new q (.box [AV.int .i64 at_])).set a (.box (aw [x] 0 (au .aT)))).box b = some [y] \/ b = a := by
  by_cases e : b = a
  · exact .inr e
  · left; rw [nC, if_neg e, yU, if_neg qb]; exact hb
 have s4' : ∃ y', ((U.new q (.box [AV.int .i64 at_])).set a (.box (aw [x] 0 (au .aT)))).box b = some [y'] := by
  rcases s4 with s4 | rfl
  · exact ⟨_, s4⟩
  · exact ⟨_, by rw [nC, if_pos rfl]; rfl⟩
 obtain ⟨y', s4⟩ := s4'
 rw [jr s4]
 simp only [wp_cond, iB]
 refine ⟨by simp, by simp [St.set, Ne.symm qa, Ne.symm qb], ?_⟩
 have s5' : ∃ z', (((U.new q (.box [AV.int .i64 at_])).set a (.box (aw [x] 0 (au .aT)))).set b (.box (aw [y'] 0 (au (.int .i64 at_))))).box c = some [z'] := by
  rw [nC]
  split
  · exact ⟨_, rfl⟩
  · rw [nC]
    split
    · exact ⟨_, rfl⟩
    · rw [yU, if_neg qc]; exact ⟨_, hc⟩
 obtain ⟨z', s5⟩ := s5'
 rw [jr s5]
 simp only [wp_cond, iB]
 exact ⟨by simp, h q hq⟩
end Go.Rip
set_option maxRecDepth 100000
namespace Go.Rip
open Go.Proofs Go.RowKit
noncomputable def IX : Array Oper := match Tryz.f54.body with | some (.seq (.region _ o _) _) => o | _ => #[]
noncomputable def oe : Array Oper := match Tryz.f54.body with | some (.seq _ (.seq (.region _ o _) _)) => o | _ => #[]
noncomputable def fF : Array Oper := match Tryz.f54.body with | some (.seq _ (.seq _ (.seq (.region _ o _) _))) => o | _ => #[]
theorem Rv : Tryz.f54.body = some (.seq (.region 0 IX false) (.seq (.region 1 oe false) (.seq (.region 2 fF false) .ret))) := by kernel_rfl
theorem PV : oe[0]? = some ⟨some 7, .makeFunc (.func 98) #[] #[.tmp 4, .tmp 5, .tmp 6], 1, (oe.getD 0 default).pos, #[], none⟩ := by kernel_rfl
theorem PW : oe[1]? = some ⟨none, .defer { callee := .value (.tmp 7), args := #[], argTypes := #[] }, 0, (oe.getD 1 default).pos, #[⟨0, .data⟩], none⟩ := by kernel_rfl
theorem PX : fF[0]? = some ⟨some 8, .move (.tmp 1), 90, (fF.getD 0 default).pos, (fF.getD 0 default).after, none⟩ := by kernel_rfl
theorem PY : fF[1]? = some ⟨some 9, .call { callee := .value (.tmp 8), args := #[], argTypes := #[] }, 87, (fF.getD 1 default).pos, (fF.getD 1 default).after, none⟩ := by kernel_rfl
theorem PZ : fF[2]? = some ⟨none, .store 87 (.tmp 4) (.tmp 9), 0, (fF.getD 2 default).pos, (fF.getD 2 default).after, none⟩ := by kernel_rfl
theorem P0 : fF[3]? = some ⟨none, .store 3 (.tmp 5) (.const (.int .i64 0)), 0, (fF.getD 3 default).pos, (fF.getD 3 default).after, none⟩ := by kernel_rfl
theorem P1 : fF[4]? = some ⟨none, .store 4 (.tmp 6) (.const (.bool true)), 0, (fF.getD 4 default).pos, (fF.getD 4 default).after, none⟩ := by kernel_rfl
theorem VR : List.range fF.size = [0, 1, 2, 3, 4] := by kernel_rfl
theorem Zc : kh K.P 87 = some (false, 1) := by kernel_rfl
theorem vT3 : kh K.P 3 = some (false, 1) := by kernel_rfl
theorem vT4 : kh K.P 4 = some (false, 1) := by kernel_rfl
theorem VQ : List.range oe.size = [0, 1] := by kernel_rfl
theorem D1 {nt id : Nat} {ops : Array Oper} {Q : Qx} {ρ : Env} {U : St} (ca : iu nt ops = true) (h : qQ K [] [] ops ops.toList ρ U Q.n Q.p) : aY K nt .bare (.region id ops false) Q.q ρ U :=
 vd (nt := nt) Bk (.region id ops false) (.rg [] [] none) false .bare Q ρ U ca (fun h => by cases h) h
noncomputable def S5 : Oper := match Tryz.f98.body with | some (.seq (.region _ o _) _) => o.getD 0 default | _ => default
theorem Hq : Tryz.f98.body = some (.seq (.region 0 #[⟨some 6, .call { callee := .builtin .recover, args := #[], argTypes := #[] }, 20, S5.pos, #[], none⟩] false) uV) := by kernel_rfl
theorem SS : (Tryz.f98.name == "runtime.NumGoroutine") = false := by kernel_rfl
theorem Ma (captured : Array Value) (w : World) : (invoke (.fn (.func 98) captured) #[]).run K.P w = .ok (.enter 98 captured) w := by
 have hfn : K.P.funcs[98]? = some Tryz.f98 := Tryz.func98
 have h1 : Tryz.f98.name ≠ "runtime.NumGoroutine" := by simpa using SS
 simp [invoke, callFunc, hfn, h1, Hq, Result.andThen, run_program]
theorem VC (ev : Operand -> Value) (w : World) : (execOp ev ⟨some 6, .call { callee := .builtin .recover, args := #[], argTypes := #[] }, 20, S5.pos, #[], none⟩).run K.P w = .ok .recover w := by
 simp [execOp, Go.resolve, invoke, builtin, Result.andThen]
theorem Oo {g0 g : Gh} {U : St} {w : World} {ρ : Env} {tmps : Array Value} {a b c : Nat} {x y z : AV} {R : cu -> St -> Prop} (hle : Gh.Le g0 g) (hs : aS g U w) (hr : eE g ρ tmps)
 (h4 : ρ.get 4 = .box a 0) (h5 : ρ.get 5 = .box b 0) (h6 : ρ.get 6 = .box c 0) (ha : U.box a = some [x]) (hb : U.box b = some [y]) (hc : U.box c = some [z]) (hR : R (.ret (.aN [x, y, z])) U) :
 LeavesInM Fence.wide 0 K.P Tryz.f54 tmps (lh g0 R) [] .returning w := by
 have hk : qT K.P ρ U Tryz.f54.results.toList fun vs => R (.ret (qY vs)) U := by
  refine rU _ _ ?_
  refine Eq.mp (show (bA (some (false, 1)) (ρ.get 4) U fun x => bA (some (false, 1)) (ρ.get 5) U fun y => bA (some (false, 1)) (ρ.get 6) U fun z => R (.ret (.aN [x, y, z])) U) = _ by kernel_rfl) ?_
  rw [h4, h5, h6]
  simp only [bA, pD ha, pD hb, pD hc, dU, cY]
  exact hR
 obtain ⟨v, xs, eQ, hv, hk⟩ := wA (a := { tmps := tmps, defers := [] }) (fn := Tryz.f54) hs hr hk
 exact ⟨v, eQ, g, U, _, hle, hs, hv, hk⟩
theorem Dd : D8 K 136 54 := by
 intro r gf first cap U R pn h g w vs hs hG ha
 have hl := ha.length
 refine callsIn_of_wp_marks Tryz.func54 Rv trivial ?_
 have zb := wN [r, .func (.func gf) first cap] vs (Tryz.f54.ntmps - vs.toArray.size) ha
 have hnt : Tryz.f54.ntmps = 10 := by kernel_rfl
 have da : (vs.toArray ++ Array.replicate (Tryz.f54.ntmps - vs.toArray.size) undef).size = 10 := by rw [hnt]; simp at hl ⊢; omega
 generalize vs.toArray ++ Array.replicate (Tryz.f54.ntmps - vs.toArray.size) undef = tm0 at zb da
 have c0 : aY K 10 .bare (.region 0 IX false) (Qx.q ⟨fun ρ ad => ∃ a b c, U.cB a /\ (U.new a (.box [.aT])).cB b /\ ((U.new a (.box [.aT])).new b (.box [.int .i64 0])).cB c /\
  ρ = (((Env.gg [r, .func (.func gf) first cap]).put 4 (.box a 0)).put 5 (.box b 0)).put 6 (.box c 0) /\ ad = (((U.new a (.box [.aT])).new b (.box [.int .i64 0])).new c (.box [.bool false])), fun _ _ _ => False, fun _ _ => False, fun _ _ => False⟩)
  (Env.gg [r, .func (.func gf) first cap]) U := by
  refine D1 (by kernel_rfl) ?_
  refine Eq.mp (show (∀ a, U.cB a -> ∀ b, (U.new a (.box [.aT])).cB b -> ∀ c, ((U.new a (.box [.aT])).new b (.box [.int .i64 0])).cB c ->
   (fun (ρ : Env) (ad : St) => ∃ a b c, U.cB a /\ (U.new a (.box [.aT])).cB b /\ ((U.new a (.box [.aT])).new b (.box [.int .i64 0])).cB c /\
   ρ = (((Env.gg [r, .func (.func gf) first cap]).put 4 (.box a 0)).put 5 (.box b 0)).put 6 (.box c 0) /\ ad = (((U.new a (.box [.aT])).new b (.box [.int .i64 0])).new c (.box [.bool false])))
    ((((Env.gg [r, .func (.func gf) first cap]).put 4 (.box a 0)).put 5 (.box b 0)).put 6 (.box c 0)) (((U.new a (.box [.aT])).new b (.box [.int .i64 0])).new c (.box [.bool false]))) = _ by kernel_rfl) ?_
  exact fun a ha b hb c hc => ⟨a, b, c, ha, hb, hc, rfl, rfl⟩
 refine wpIn_seq (wpIn_mono (c0 g w { tmps := tm0, defers := [] } none hs hG zb da trivial) ?_)
 rintro e a1 w1 ⟨n1, g1, bH, XJ, ms, d1, m1, l1, s1, r1, q1⟩
 have uu : ms = [] := m1.none rfl
 subst uu
 simp only [ke, gH] at d1
 cases e <;> simp only [BF, Qx.q] at q1
 case panic => obtain ⟨_, _, _, _, hf⟩ := q1; exact hf.elim
 obtain ⟨a, b, c, fa, fb, fc, rfl, rfl⟩ := q1
 have NJ := hG.mono l1
 refine wpIn_seq (wpIn_region ?_)
 rw [VQ]
 simp only [wpOpsIn, PV, PW, Region.wanted, if_true]
 have h4 := r1 4; have h5 := r1 5; have h6 := r1 6; have h1 := r1 1
 simp only [Env.put, Env.gg] at h4 h5 h6 h1
 have h4 : ao g1 (.box a 0) (a1.tmps.getD 4 undef) := h4
 have h5 : ao g1 (.box b 0) (a1.tmps.getD 5 undef) := h5
 have h6 : ao g1 (.box c 0) (a1.tmps.getD 6 undef) := h6
 refine ⟨fun _ _ => trivial, ?_⟩
 let fv : Value := .func (.func 98) #[] #[a1.tmps.getD 4 undef, a1.tmps.getD 5 undef, a1.tmps.getD 6 undef]
 have hmk : (Oper.semAt Fence.wide.round a1.eval ⟨some 7, .makeFunc (.func 98) #[] #[.tmp 4, .tmp 5, .tmp 6], 1, (oe.getD 0 default).pos, #[], none⟩).run K.P w1 = .ok (.value fv) w1 := by
  simp [Oper.semAt, execOp, fv, Act.eval, Fence.wide, Instr.makeFunc, Result.andThen]
 rw [hmk, Oper.uponIn_value]
 have e7 : (a1.put (some 7) fv).eval (.tmp 7) = fv := by
  show (a1.tmps.setIfInBounds 7 fv).getD 7 undef = fv
  simp [n1]
 refine ⟨fun _ _ => trivial, ?_⟩
 have LV : (Oper.semAt Fence.wide.round (a1.put (some 7) fv).eval ⟨none, .defer { callee := .value (.tmp 7), args := #[], argTypes := #[] }, 0, (oe.getD 1 default).pos, #[⟨0, .data⟩], none⟩).run K.P w1
  = .ok (.defer { target := .fn (.func 98) #[a1.tmps.getD 4 undef, a1.tmps.getD 5 undef, a1.tmps.getD 6 undef], args := #[] }) w1 := by
  simp [Oper.semAt, execOp, Go.resolve, e7, Fence.wide, Deferred.ofValue, Result.andThen]; simp [fv]
 rw [LV, Oper.uponIn_defer]
 show (Code.seq (.region 2 fF false) .ret).wpIn _ _ _ _ _ _
 let dd : Deferred := { target := .fn (.func 98) #[a1.tmps.getD 4 undef, a1.tmps.getD 5 undef, a1.tmps.getD 6 undef], args := #[] }
 let a2 : Act := { tmps := a1.tmps.setIfInBounds 7 fv, defers := dd :: a1.defers }
 show (Code.seq (.region 2 fF false) .ret).wpIn Fence.wide 0 K.P _ a2 w1
 let nq : Env := ((((Env.gg [r, .func (.func gf) first cap]).put 4 (.box a 0)).put 5 (.box b 0)).put 6 (.box c 0)).put 7 .any
 have r2 : eE g1 nq a2.tmps := r1.put (by rw [n1]; decide) (by simp only [ao])
 let c7 : St := ((U.new a (.box [.aT])).new b (.box [.int .i64 0])).new c (.box [.bool false])
 have ab : a ≠ b := fun e => by subst e; simp [St.cB, St.new] at fb
 have ac : a ≠ c := fun e => by
  subst e
  have := fc.1
  simp only [St.new, if_true] at this
  split at this <;> cases this
 have bc : b ≠ c := fun e => by subst e; simp [St.cB, St.new] at fc
 have n2 : a2.tmps.size = 10 := by show (a1.tmps.setIfInBounds 7 fv).size = 10; simp [n1]
 have d2 : a2.defers = [dd] := by show dd :: a1.defers = _; rw [d1]
 have Wr : a2.tmps.getD 4 undef = a1.tmps.getD 4 undef := by show (a1.tmps.setIfInBounds 7 fv).getD 4 undef = _; simp
 have Ws : a2.tmps.getD 5 undef = a1.tmps.getD 5 undef := by show (a1.tmps.setIfInBounds 7 fv).getD 5 undef = _; simp
 have Wt : a2.tmps.getD 6 undef = a1.tmps.getD 6 undef := by show (a1.tmps.setIfInBounds 7 fv).getD 6 undef = _; simp
 have deferred : ∀ {a3 : Act} {g3 : Gh} {cH : St} {w3 : World} {x : AV} {v : Value} {u u' : FrameMode} {Rn : St -> Prop}, Gh.Le g1 g3 -> a3.defers = [dd] -> aS g3 cH w3 -> ao g3 x v -> ((u = .returning /\ v = .nilIface /\ u' = .returning) \/ (u = .panicking [{ v, recovered := false }] /\ u' = .panicking [{ v, recovered := true }])) ->
  E6 (.box a 0) (.box b 0) (.box c 0) x Rn cH -> (∀ g4 dy w4, Gh.Le g3 g4 -> aS g4 dy w4 -> Rn dy -> LeavesInM Fence.wide 0 K.P Tryz.f54 a3.tmps (lh g R) [] (settle u') w4) ->
  LeavesInM Fence.wide 0 K.P Tryz.f54 a3.tmps (lh g R) a3.defers u w3 := by
  intro a3 g3 cH w3 x v u u' Rn l3 d3 s3 hx hu hr hk
  rw [d3]
  simp only [LeavesInM]
  have Va : ax g3 [.box a 0, .box b 0, .box c 0] [a1.tmps.getD 4 undef, a1.tmps.getD 5 undef, a1.tmps.getD 6 undef] := by
   simp only [ax]
   exact ⟨_, _, rfl, h4.mono l3, _, _, rfl, h5.mono l3, _, _, rfl, h6.mono l3, rfl⟩
  refine ⟨by rcases hu with ⟨rfl, _⟩ | ⟨rfl, _⟩ <;> simp, .inr ⟨fun hd => by simp [Fence.wide] at hd, .func 98, _, 98, _, rfl, Ma _ _, fun _ _ => trivial, ?_⟩⟩
  have := P7 (C := K) (f := 98) (fn := Tryz.f98) (id := 0) (d := 6) (vs := [a1.tmps.getD 4 undef, a1.tmps.getD 5 undef, a1.tmps.getD 6 undef]) (args := [.box a 0, .box b 0, .box c 0]) (hf := Tryz.func98) (hb := Hq) (hres := by kernel_rfl) (hop := VC) (hd := rfl) (hdn := by decide +kernel) (hg := rfl)
   (hlen := Nat.le_of_ble_eq_true (n := 3) (m := Tryz.f98.ntmps) (by kernel_rfl)) s3 (NJ.mono l3) Va hx hu Rn (Tc hr)
  refine CallsDIn.mono this ?_
  rintro e u2 w4 ⟨v', rfl, rfl, g4, dy, l4, s4, hn⟩
  exact hk g4 dy w4 l4 s4 hn
 refine wpIn_seq (wpIn_region ?_)
 rw [VR]
 simp only [wpOpsIn, PX, PY, PZ, P0, P1, Region.wanted, if_true]
 refine l9 (fr := none) (C := K) (nt := 10) (g := g1) (U := c7) (ρ := nq) (mu := false) (ds := []) (K := fun x s => x = .func (.func gf) first cap /\ s = c7) (Kp := fun _ _ => False) (by rfl) s1 NJ r2 n2 ?_ ?_ (fun _ _ _ _ _ _ _ _ hf => hf.elim)
 · exact ⟨rfl, rfl⟩
 rintro g2 ad w2 x v l2 s2 hx ⟨rfl, rfl⟩
 have r3 : eE g2 (nq.put 8 (.func (.func gf) first cap)) (a2.put (some 8) v).tmps := (r2.mono l2).put (by rw [n2]; decide) hx
 have n3 : (a2.put (some 8) v).tmps.size = 10 := by rw [(kK _ _ _).2]; exact n2
 refine l9 (fr := none) (C := K) (nt := 10) (g := g2) (U := c7) (ρ := nq.put 8 (.func (.func gf) first cap)) (mu := false) (ds := []) (K := fun x s => Dc 136 a b c R (.ret x) s) (Kp := fun x s => Dc 136 a b c R (.panic x) s) (by rfl) s2 (NJ.mono l2) r3 n3 ?_ ?_ ?_
 · show ((fo K.P (.func (.func gf) first cap) []).wp K c7 _ _)
   simp only [fo, pn, if_true, hP, iI]
   refine (h a b c fa fb fc).mono fun res ad hres => ?_
   cases res <;> exact hres
 · rintro g3 cH w3 x v3 l3 s3 SC ⟨N4, ⟨xa, ba⟩, ⟨xb, bb⟩, ⟨xc, Zo⟩, hR⟩
   have ZW : au x = [x] := by cases x <;> first | rfl | cases N4
   have qf : x.cC = true := by cases x <;> first | rfl | cases N4
   have r4 : eE g3 ((nq.put 8 (.func (.func gf) first cap)).put 9 x) ((a2.put (some 8) v).put (some 9) v3).tmps := (r3.mono l3).put (by rw [n3]; decide) SC
   have n4 : ((a2.put (some 8) v).put (some 9) v3).tmps.size = 10 := by rw [(kK _ _ _).2]; exact n3
   have RL := NJ.mono (l2.trans l3)
   refine l9 (fr := none) (C := K) (nt := 10) (g := g3) (U := cH) (ρ := (nq.put 8 (.func (.func gf) first cap)).put 9 x) (mu := false) (ds := []) (K := fun y s => s = cH.bN a [x]) (Kp := fun _ _ => False) (by rfl) s3 RL r4 n4 ?_ ?_ (fun _ _ _ _ _ _ _ _ hf => hf.elim)
   · rw [<- od]
     show (aF (kh K.P 87) (.box a 0) x cH).wp K cH _ _
     rw [Zc, jr ba]
     simp only [wp_cond, iB, ZW]
     exact ⟨⟨qf, rfl, by simp⟩, rfl⟩
   rintro g4 _ w4 _ _ l4 s4 _ rfl
   refine l9 (fr := none) (C := K) (nt := 10) (g := g4) (U := cH.bN a [x]) (ρ := (nq.put 8 (.func (.func gf) first cap)).put 9 x) (mu := false) (ds := []) (K := fun y s => s = (cH.bN a [x]).bN b [.int .i64 0]) (Kp := fun _ _ => False) (by rfl) s4 (RL.mono l4) (r4.mono l4) n4 ?_ ?_ (fun _ _ _ _ _ _ _ _ hf => hf.elim)
   · rw [<- od]
     show (aF (kh K.P 3) (.box b 0) (.int .i64 0) (cH.bN a [x])).wp K _ _ _
     have : (cH.bN a [x]).box b = some [xb] := by simp only [St.bN]; rw [nC, if_neg (Ne.symm ab)]; exact bb
     rw [vT3, jr this]
     simp only [wp_cond, iB]
     exact ⟨by simp, rfl⟩
   rintro g5 _ w5 _ _ l5 s5 _ rfl
   refine l9 (fr := none) (C := K) (nt := 10) (g := g5) (U := (cH.bN a [x]).bN b [.int .i64 0]) (ρ := (nq.put 8 (.func (.func gf) first cap)).put 9 x) (mu := false) (ds := []) (K := fun y s => s = ((cH.bN a [x]).bN b [.int .i64 0]).bN c [.bool true]) (Kp := fun _ _ => False) (by rfl) s5 (RL.mono (l4.trans l5)) (r4.mono (l4.trans l5)) n4 ?_ ?_ (fun _ _ _ _ _ _ _ _ hf => hf.elim)
   · rw [<- od]
     show (aF (kh K.P 4) (.box c 0) (.bool true) ((cH.bN a [x]).bN b [.int .i64 0])).wp K _ _ _
     have : ((cH.bN a [x]).bN b [.int .i64 0]).box c = some [xc] := by simp only [St.bN]; rw [nC, if_neg (Ne.symm bc), nC, if_neg (Ne.symm ac)]; exact Zo
     rw [vT4, jr this]
     simp only [wp_cond, iB]
     exact ⟨by simp, rfl⟩
   rintro g6 _ w6 _ _ l6 s6 _ rfl
   show Code.wpIn Fence.wide 0 K.P .ret _ _ _
   refine wpIn_ret ?_
   have Xe := l2.trans (l3.trans (l4.trans (l5.trans l6)))
   refine deferred (a3 := (a2.put (some 8) v).put (some 9) v3) (x := .cA) (v := .nilIface) (u := .returning) (u' := .returning) (Rn := fun s => s = ((cH.bN a [x]).bN b [.int .i64 0]).bN c [.bool true]) Xe d2 s6 (by simp only [ao]) (.inl ⟨rfl, rfl, rfl⟩) (P6 rfl) ?_
   rintro g7 gz w7 l7 s7 rfl
   exact Oo (l1.trans (Xe.trans l7)) s7 (r4.mono ((l4.trans (l5.trans l6)).trans l7)) rfl rfl rfl (by simp [St.bN, ac, ab]) (by simp [St.bN, bc]) (by simp [St.bN]) hR
 · rintro g3 cH w3 x v3 l3 s3 SC ⟨at_, rfl, ⟨xa, ka⟩, ⟨xb, kb⟩, ⟨xc, kc⟩, hR⟩
   show LeavesInM Fence.wide 0 K.P Tryz.f54 (a2.put (some 8) v).tmps (lh g R) (a2.put (some 8) v).defers _ w3
   refine deferred (a3 := a2.put (some 8) v) (u := .panicking [{ v := v3, recovered := false }]) (u' := .panicking [{ v := v3, recovered := true }]) (Rn := fun s => ∃ q, cH.cB q /\ s = ((((cH.new q (.box [.int .i64 at_])).bN a [.aT]).bN b [.int .i64 at_]).bN c [.bool false])) (l2.trans l3) d2 s3 SC (.inr ⟨rfl, rfl⟩) (I8 ka kb kc fun q hq => ⟨q, hq, rfl⟩) ?_
   rintro g4 dy w4 l4 s4 ⟨q, hq, rfl⟩
   exact Oo (l1.trans ((l2.trans l3).trans l4)) s4 ((r3.mono l3).mono l4) rfl rfl rfl (by simp [St.bN, ac, ab]) (by simp [St.bN, bc]) (by simp [St.bN]) (hR q hq)
end Go.Rip
namespace Go.Rip
open Go.Proofs
abbrev eI : An := .rg [] [] none
abbrev aQ (a b : An) : An := .sq none a b
abbrev ak (b : An) : An := .sq none (.rg [] [] none) b
abbrev aL : BT := BT.mk false false false none false
abbrev aG : Option (Bool × Nat) := some (false, 1)
theorem bO {f : FuncId} {args : List AV} {R : cu -> St -> Prop} {U : St} {P : Prop} (fn : Func) (an : An) (h : P) (h1 : K.P.funcs[f]? = some fn := by kernel_rfl) (h2 : okF fn an args.length = true := by kernel_rfl) (h3 : P = Fq K fn an args R U := by kernel_rfl) : ae K f args U R :=
 ae.PT Bk an h1 h2 (Eq.mp h3 h)
end Go.Rip
