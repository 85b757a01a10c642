/- Lemmas for the proof: no conditions. -/
import Derived.Test.YtnfpmiiopiinbaaGreatDoorRipZz
import Derived.KernelRfl
import Derived.Lib.LaidTab
import Derived.Lib.ItoaNum
import Derived.Test.YtnfpmiiopiinbaaGreatDoorProg
import Derived.Test.YtnfpmiiopiinbaaGreatDoorRipC
set_option linter.unusedVariables false
set_option linter.unusedSimpArgs false
set_option linter.loopingSimpArgs false
namespace Go.Rip
def w_ : List UInt8 := []
def Al : List UInt8 := [10]
def pA : List UInt8 := [33]
def pB : List UInt8 := [40]
def qp : List UInt8 := [41]
def xq : List UInt8 := [42]
def xr : List UInt8 := [43]
def xu : List UInt8 := [44]
def xv : List UInt8 := [45]
def ji : List UInt8 := [45, 62]
def Am : List UInt8 := [46]
def xw : List UInt8 := [58]
def da : List UInt8 := [58, 61]
def sj : List UInt8 := [59]
def xx : List UInt8 := [60]
def xy : List UInt8 := [61]
def dr : List UInt8 := [61, 60, 43, 45, 42, 33, 40, 41, 123, 125, 44, 59, 58, 46]
def xz : List UInt8 := [123]
def Ao : List UInt8 := [125]
def Ap : List UInt8 := [97, 110, 100]
def EW : List UInt8 := [97, 115]
def NH : List UInt8 := [98, 111, 111, 108]
def ru : List UInt8 := [99, 97, 110, 110, 111, 116, 32, 98, 101, 32, 110, 101, 103, 97, 116, 105, 118, 101]
def NJ : List UInt8 := [99, 101, 108, 108]
def pg : List UInt8 := [99, 104, 111, 111, 115, 101]
def RE : List UInt8 := [99, 111, 109]
def uZ : List UInt8 := [100, 101, 102]
def Bi : List UInt8 := [100, 111]
def lf : List UInt8 := [101, 108, 115, 101]
def nN : List UInt8 := [101, 120, 112, 111, 114, 116]
def gC : List UInt8 := [102, 97, 108, 115, 101]
def EX : List UInt8 := [102, 110]
def CG : List UInt8 := [103, 101, 116]
def lg : List UInt8 := [104, 97, 110, 103]
def yV : List UInt8 := [105, 102]
def nO : List UInt8 := [105, 109, 112, 111, 114, 116]
def ry : List UInt8 := [105, 110]
def RF : List UInt8 := [105, 110, 116]
def nj : List UInt8 := [106, 117, 109, 112]
def qC : List UInt8 := [108, 97, 98, 101, 108]
def rz : List UInt8 := [108, 101, 110, 32, 111, 117, 116, 32, 111, 102, 32, 114, 97, 110, 103, 101]
def xB : List UInt8 := [110, 101, 119]
def CH : List UInt8 := [110, 111, 116]
def ph : List UInt8 := [110, 111, 116, 105, 99, 101]
def Xb : List UInt8 := [111, 102]
def EZ : List UInt8 := [111, 114]
def CI : List UInt8 := [112, 117, 116]
def jF : List UInt8 := [115, 107, 105, 112]
def tQ : List UInt8 := [116, 104, 101, 110]
def gb : List UInt8 := [116, 114, 117, 101]
def pj : List UInt8 := [119, 104, 105, 108, 101]
end Go.Rip
namespace Go.Rip
open Go.Proofs
def sZ : List AV := (List.range 256).map fun c => .int .u8 (if c = 9 \/ c = 10 \/ c = 11 \/ c = 12 \/ c = 13 \/ c = 32 then 1 else 0)
def tD : List AV := (List.range 20).map fun c => .int .u64 (10 ^ c : Nat)
noncomputable def K : cw := ⟨Tryz.prog, fun i => if i = 0 then .ck sZ else if i = 7 then .ck tD else .any, fun i => if i = 7 then some (Lib.pow10Tab.map fun z => Value.int .u64 z).toArray else none⟩
theorem CL : K.P.follows .mixedOrders = true := by show Tryz.prog.follows .mixedOrders = true; kernel_rfl
end Go.Rip
set_option maxRecDepth 100000
namespace Go.Rip
open Go.Proofs Go.RowKit
noncomputable def wI : Code := match Tryz.f98.body with | some (.seq _ c) => c | _ => .skip
def NS : An := .bk (.sq none (.rg [] [] none) (.cd (.rg [] [] none) (.sq none (.rg [] [] none) (.cd (.sq none (.rg [] [] none) (.rg [] [] (some ⟨[(true, 0), (true, 1), (false, 2), (false, 3), (false, 4)], [⟨4096, 16, 0⟩, ⟨8192, 4096, 1⟩, ⟨0, 1, 0⟩, ⟨0, 8194, 7⟩, ⟨0, 4, 15⟩]⟩))) (.sq none (.rg [] [] none) (.rg [] [] none))))))
def GP (a0 a1 a2 x : AV) (Rn : St -> Prop) (U : St) : Prop :=
 (aj .eql (BT.mk false true false none false) true x AV.cW).wp K U (fun v8 U =>
 aq v8 (
  Rn U) (
  (sR (some (AV.agg [AV.int .i64 0])) x 136 true).wp K U (fun v9 U =>
  (bq v9 1).wp K U (fun v10 U =>
  (bq v9 0).wp K U (fun v11 U =>
  aq v10 (
   (au.cq [AV.int .i64 0]).wp K U (fun v4 U =>
   (aL (some (true, 1)) v4 v11 U).wp K U (fun _ U =>
   (fun aG : St =>
   aw K (ag (some 0) v4) (fun v12 =>
   aw K (ao (some (false, 1)) v12 aG) (fun bI =>
   (aL (some (false, 1)) a0 AV.a8 U).wp K U (fun _ U => cU ((cB v12 ++ []) ++ []) aG U /\
   (aL (some (false, 1)) a1 bI U).wp K U (fun _ U => cU ((cB v12 ++ []) ++ []) aG U /\
   (aL (some (false, 1)) a2 (AV.bool false) U).wp K U (fun _ U =>
   Rn U) (fun _ _ => False)) (fun _ _ => False)) (fun _ _ => False)))) U) (fun _ _ => False)) (fun _ _ => False)) (
   (oD x).wp K U (fun _ U =>
   Rn U) (fun _ _ => False))) (fun _ _ => False)) (fun _ _ => False)) (fun _ _ => False))) (fun _ _ => False)
theorem Wi {a0 a1 a2 x : AV} {Rn : St -> Prop} {U : St} (h : GP a0 a1 a2 x Rn U) : bw K 14 .bare wI (Qb Rn) ((Env.gX [a0, a1, a2]).put 6 x) U := by
 have h2 : mh K wI NS ⟨fun _ U => Rn U, fun _ _ _ => False, fun _ U => Rn U, fun _ _ => False⟩ ((Env.gX [a0, a1, a2]).put 6 x) U :=
  Eq.mp (show GP a0 a1 a2 x Rn U = mh K wI NS ⟨fun _ U => Rn U, fun _ _ _ => False, fun _ U => Rn U, fun _ _ => False⟩ ((Env.gX [a0, a1, a2]).put 6 x) U by kernel_rfl) h
 refine (wS (nt := 14) CL wI NS false .bare _ _ _ (by kernel_rfl) (fun h => by cases h) h2).mono fun e ρ U he => ?_
 cases e with
 | normal => exact he
 | ret => exact he
 | exit i => exact he.elim
 | panic x => exact he.elim
theorem St.cY.ne {U : St} {q b : Nat} {l : List AV} (h : U.cY q) (hb : U.box b = some l) : b ≠ q := fun e => by
 subst e
 obtain ⟨y, this, _⟩ := St.qG hb
 rw [h.1] at this; cases this
@[simp] theorem oZ (U : St) (b y : Nat) (l : List AV) : (U.set b (.box l)).box y = if y = b then some l else U.box y := by
 simp only [St.box, St.set]; by_cases h : y = b <;> simp [h]
@[simp] theorem AA (U : St) (b y : Nat) (l : List AV) : (U.new b (.box l)).box y = if y = b then some l else U.box y := by
 simp only [St.box, St.new]; by_cases h : y = b <;> simp [h]
theorem Sz {a0 a1 a2 : AV} {Rn : St -> Prop} {U : St} (h : Rn U) : GP a0 a1 a2 .cW Rn U := by
 show ((true = true -> Rn U) /\ _)
 exact ⟨fun _ => h, fun h => by cases h⟩
theorem Ky {a b c : Nat} {at_ : Int} {x y z : AV} {Rn : St -> Prop} {U : St} (ha : U.box a = some [x]) (hb : U.box b = some [y]) (hc : U.box c = some [z])
 (h : ∀ q, U.cY q -> Rn ((((U.new q (.box [.int .i64 at_])).bU a [.a8]).bU b [.int .i64 at_]).bU c [.bool false])) : GP (.box a 0) (.box b 0) (.box c 0) (.iface 136 (.agg [.int .i64 at_])) Rn U := by
 have e1 : (aj .eql (BT.mk false true false none false) true (.iface 136 (.agg [.int .i64 at_])) AV.cW) = .val (.bool false) := rfl
 have e2 : (sR (some (AV.agg [AV.int .i64 0])) (.iface 136 (.agg [.int .i64 at_])) 136 true) = .val (.aR [.agg [.int .i64 at_], .bool true]) := rfl
 simp only [GP, e1, e2, ah, aW, bf, cz, List.drop_succ_cons, ez, dB, mi]
 intro q hq
 have qa := hq.ne ha
 have qb := hq.ne hb
 have qc := hq.ne hc
 have s1 : (U.new q (.box [AV.int .i64 0])).box q = some [AV.int .i64 0] := by simp
 simp only [NV.at]
 rw [kr s1]
 simp only [wp_cond, jG]
 refine ⟨by simp, ?_⟩
 simp only [aV, av]
 have e3 : (U.new q (.box [AV.int .i64 0])).set q (.box (aB [AV.int .i64 0] 0 (ay (.agg [.int .i64 at_])))) = U.new q (.box [.int .i64 at_]) := by
  simp only [St.set, St.new, St.mk.injEq, and_true]
  funext y
  split <;> rfl
 rw [e3]
 have s2 : (U.new q (.box [AV.int .i64 at_])).box q = some [AV.int .i64 at_] := by simp
 rw [qX s2]
 simp only [Nat.add_zero, ez, dB, av]
 have s3 : (U.new q (.box [AV.int .i64 at_])).box a = some [x] := by rw [AA, if_neg qa]; exact ha
 rw [kr s3]
 simp only [wp_cond, jG, cU, cB, iy, mP, forall_eq]
 refine ⟨by simp, by simp [St.set, Ne.symm qa], ?_⟩
 have s4 : ((U.new q (.box [AV.int .i64 at_])).set a (.box (aB [x] 0 (ay .a8)))).box b = some [y] \/ b = a := by
  by_cases e : b = a
  · exact .inr e
  · left; rw [oZ, if_neg e, AA, if_neg qb]; exact hb
 have s4' : ∃ y', ((U.new q (.box [AV.int .i64 at_])).set a (.box (aB [x] 0 (ay .a8)))).box b = some [y'] := by
  rcases s4 with s4 | rfl
  · exact ⟨_, s4⟩
  · exact ⟨_, by rw [oZ, if_pos rfl]; rfl⟩
 obtain ⟨y', s4⟩ := s4'
 rw [kr s4]
 simp only [wp_cond, jG]
 refine ⟨by simp, by simp [St.set, Ne.symm qa, Ne.symm qb], ?_⟩
 have s5' : ∃ z', (((U.new q (.box [AV.int .i64 at_])).set a (.box (aB [x] 0 (ay .a8)))).set b (.box (aB [y'] 0 (ay (.int .i64 at_))))).box c = some [z'] := by
  rw [oZ]
  split
  · exact ⟨_, rfl⟩
  · rw [oZ]
    split
    · exact ⟨_, rfl⟩
    · rw [AA, if_neg qc]; exact ⟨_, hc⟩
 obtain ⟨z', s5⟩ := s5'
 rw [kr s5]
 simp only [wp_cond, jG]
 exact ⟨by simp, h q hq⟩
end Go.Rip
set_option maxRecDepth 100000
namespace Go.Rip
open Go.Proofs Go.RowKit
noncomputable def Ks : Array Oper := match Tryz.f54.body with | some (.seq (.region _ o _) _) => o | _ => #[]
noncomputable def pJ : Array Oper := match Tryz.f54.body with | some (.seq _ (.seq (.region _ o _) _)) => o | _ => #[]
noncomputable def gw : Array Oper := match Tryz.f54.body with | some (.seq _ (.seq _ (.seq (.region _ o _) _))) => o | _ => #[]
theorem Uw : Tryz.f54.body = some (.seq (.region 0 Ks false) (.seq (.region 1 pJ false) (.seq (.region 2 gw false) .ret))) := by kernel_rfl
theorem Sm : pJ[0]? = some ⟨some 7, .makeFunc (.func 98) #[] #[.tmp 4, .tmp 5, .tmp 6], 1, (pJ.getD 0 default).pos, #[], none⟩ := by kernel_rfl
theorem Sn : pJ[1]? = some ⟨none, .defer { callee := .value (.tmp 7), args := #[], argTypes := #[] }, 0, (pJ.getD 1 default).pos, #[⟨0, .data⟩], none⟩ := by kernel_rfl
theorem So : gw[0]? = some ⟨some 8, .move (.tmp 1), 90, (gw.getD 0 default).pos, (gw.getD 0 default).after, none⟩ := by kernel_rfl
theorem Sq : gw[1]? = some ⟨some 9, .call { callee := .value (.tmp 8), args := #[], argTypes := #[] }, 87, (gw.getD 1 default).pos, (gw.getD 1 default).after, none⟩ := by kernel_rfl
theorem Sr : gw[2]? = some ⟨none, .store 87 (.tmp 4) (.tmp 9), 0, (gw.getD 2 default).pos, (gw.getD 2 default).after, none⟩ := by kernel_rfl
theorem Ss : gw[3]? = some ⟨none, .store 3 (.tmp 5) (.const (.int .i64 0)), 0, (gw.getD 3 default).pos, (gw.getD 3 default).after, none⟩ := by kernel_rfl
theorem Su : gw[4]? = some ⟨none, .store 4 (.tmp 6) (.const (.bool true)), 0, (gw.getD 4 default).pos, (gw.getD 4 default).after, none⟩ := by kernel_rfl
theorem YM : List.range gw.size = [0, 1, 2, 3, 4] := by kernel_rfl
theorem abx : lA K.P 87 = some (false, 1) := by kernel_rfl
theorem vT3 : lA K.P 3 = some (false, 1) := by kernel_rfl
theorem vT4 : lA K.P 4 = some (false, 1) := by kernel_rfl
theorem YL : List.range pJ.size = [0, 1] := by kernel_rfl
theorem FN {nt id : Nat} {ops : Array Oper} {Q : Qx} {ρ : Env} {U : St} (cF : kL nt ops = true) (h : sI K [] [] ops ops.toList ρ U Q.n Q.p) : bw K nt .bare (.region id ops false) Q.q ρ U :=
 wS (nt := nt) CL (.region id ops false) (.rg [] [] none) false .bare Q ρ U cF (fun h => by cases h) h
noncomputable def Wb : Oper := match Tryz.f98.body with | some (.seq (.region _ o _) _) => o.getD 0 default | _ => default
theorem IK : Tryz.f98.body = some (.seq (.region 0 #[⟨some 6, .call { callee := .builtin .recover, args := #[], argTypes := #[] }, 20, Wb.pos, #[], none⟩] false) wI) := by kernel_rfl
theorem VX : (Tryz.f98.name == "runtime.NumGoroutine") = false := by kernel_rfl
theorem OH (captured : Array Value) (w : World) : (invoke (.fn (.func 98) captured) #[]).run K.P w = .ok (.enter 98 captured) w := by
 have hfn : K.P.funcs[98]? = some Tryz.f98 := Tryz.func98
 have h1 : Tryz.f98.name ≠ "runtime.NumGoroutine" := by simpa using VX
 simp [invoke, callFunc, hfn, h1, IK, Result.andThen, run_program]
theorem Yr (ev : Operand -> Value) (w : World) : (execOp ev ⟨some 6, .call { callee := .builtin .recover, args := #[], argTypes := #[] }, 20, Wb.pos, #[], none⟩).run K.P w = .ok .recover w := by
 simp [execOp, Go.resolve, invoke, builtin, Result.andThen]
theorem QN {g0 g : Gh} {U : St} {w : World} {ρ : Env} {tmps : Array Value} {a b c : Nat} {x y z : AV} {R : cD -> St -> Prop} (hle : Gh.Le g0 g) (hs : aZ g U w) (hr : fA g ρ tmps)
 (h4 : ρ.get 4 = .box a 0) (h5 : ρ.get 5 = .box b 0) (h6 : ρ.get 6 = .box c 0) (ha : U.box a = some [x]) (hb : U.box b = some [y]) (hc : U.box c = some [z]) (hR : R (.ret (.aR [x, y, z])) U) :
 LeavesInM Fence.wide 0 K.P Tryz.f54 tmps (mv g0 R) [] .returning w := by
 have hk : sL K.P ρ U Tryz.f54.results.toList fun vs => R (.ret (sP vs)) U := by
  refine tF _ _ ?_
  refine Eq.mp (show (br (some (false, 1)) (ρ.get 4) U fun x => br (some (false, 1)) (ρ.get 5) U fun y => br (some (false, 1)) (ρ.get 6) U fun z => R (.ret (.aR [x, y, z])) U) = _ by kernel_rfl) ?_
  rw [h4, h5, h6]
  simp only [br, qX ha, qX hb, qX hc, ez, dB]
  exact hR
 obtain ⟨v, xs, fK, hv, hk⟩ := ye (a := { tmps := tmps, defers := [] }) (fn := Tryz.f54) hs hr hk
 exact ⟨v, fK, g, U, _, hle, hs, hv, hk⟩
theorem EK : FX K 136 54 := by
 intro r gf first cap U R qN h g w vs hs hG ha
 have hl := ha.length
 refine callsIn_of_wp_marks Tryz.func54 Uw trivial ?_
 have AL := yn [r, .func (.func gf) first cap] vs (Tryz.f54.ntmps - vs.toArray.size) ha
 have hnt : Tryz.f54.ntmps = 10 := by kernel_rfl
 have dD : (vs.toArray ++ Array.replicate (Tryz.f54.ntmps - vs.toArray.size) undef).size = 10 := by rw [hnt]; simp at hl ⊢; omega
 generalize vs.toArray ++ Array.replicate (Tryz.f54.ntmps - vs.toArray.size) undef = tm0 at AL dD
 have c0 : bw K 10 .bare (.region 0 Ks false) (Qx.q ⟨fun ρ ae => ∃ a b c, U.cY a /\ (U.new a (.box [.a8])).cY b /\ ((U.new a (.box [.a8])).new b (.box [.int .i64 0])).cY c /\
  ρ = (((Env.gX [r, .func (.func gf) first cap]).put 4 (.box a 0)).put 5 (.box b 0)).put 6 (.box c 0) /\ ae = (((U.new a (.box [.a8])).new b (.box [.int .i64 0])).new c (.box [.bool false])), fun _ _ _ => False, fun _ _ => False, fun _ _ => False⟩)
  (Env.gX [r, .func (.func gf) first cap]) U := by
  refine FN (by kernel_rfl) ?_
  refine Eq.mp (show (∀ a, U.cY a -> ∀ b, (U.new a (.box [.a8])).cY b -> ∀ c, ((U.new a (.box [.a8])).new b (.box [.int .i64 0])).cY c ->
   (fun (ρ : Env) (ae : St) => ∃ a b c, U.cY a /\ (U.new a (.box [.a8])).cY b /\ ((U.new a (.box [.a8])).new b (.box [.int .i64 0])).cY c /\
   ρ = (((Env.gX [r, .func (.func gf) first cap]).put 4 (.box a 0)).put 5 (.box b 0)).put 6 (.box c 0) /\ ae = (((U.new a (.box [.a8])).new b (.box [.int .i64 0])).new c (.box [.bool false])))
    ((((Env.gX [r, .func (.func gf) first cap]).put 4 (.box a 0)).put 5 (.box b 0)).put 6 (.box c 0)) (((U.new a (.box [.a8])).new b (.box [.int .i64 0])).new c (.box [.bool false]))) = _ by kernel_rfl) ?_
  exact fun a ha b hb c hc => ⟨a, b, c, ha, hb, hc, rfl, rfl⟩
 refine wpIn_seq (wpIn_mono (c0 g w { tmps := tm0, defers := [] } none hs hG AL dD trivial) ?_)
 rintro e a1 w1 ⟨n1, g1, bJ, ρ1, ms, d1, m1, l1, s1, r1, q1⟩
 have wb : ms = [] := m1.none rfl
 subst wb
 simp only [hC, ik] at d1
 cases e <;> simp only [C9, Qx.q] at q1
 case panic => obtain ⟨_, _, _, _, hf⟩ := q1; exact hf.elim
 obtain ⟨a, b, c, fa, fb, fc, rfl, rfl⟩ := q1
 have Qf := hG.mono l1
 refine wpIn_seq (wpIn_region ?_)
 rw [YL]
 simp only [wpOpsIn, Sm, Sn, Region.wanted, if_true]
 have h4 := r1 4; have h5 := r1 5; have h6 := r1 6; have h1 := r1 1
 simp only [Env.put, Env.gX] at h4 h5 h6 h1
 have h4 : az g1 (.box a 0) (a1.tmps.getD 4 undef) := h4
 have h5 : az g1 (.box b 0) (a1.tmps.getD 5 undef) := h5
 have h6 : az g1 (.box c 0) (a1.tmps.getD 6 undef) := h6
 refine ⟨fun _ _ => trivial, ?_⟩
 let fv : Value := .func (.func 98) #[] #[a1.tmps.getD 4 undef, a1.tmps.getD 5 undef, a1.tmps.getD 6 undef]
 have hmk : (Oper.semAt Fence.wide.round a1.eval ⟨some 7, .makeFunc (.func 98) #[] #[.tmp 4, .tmp 5, .tmp 6], 1, (pJ.getD 0 default).pos, #[], none⟩).run K.P w1 = .ok (.value fv) w1 := by
  simp [Oper.semAt, execOp, fv, Act.eval, Fence.wide, Instr.makeFunc, Result.andThen]
 rw [hmk, Oper.uponIn_value]
 have e7 : (a1.put (some 7) fv).eval (.tmp 7) = fv := by
  show (a1.tmps.setIfInBounds 7 fv).getD 7 undef = fv
  simp [n1]
 refine ⟨fun _ _ => trivial, ?_⟩
 have Ox : (Oper.semAt Fence.wide.round (a1.put (some 7) fv).eval ⟨none, .defer { callee := .value (.tmp 7), args := #[], argTypes := #[] }, 0, (pJ.getD 1 default).pos, #[⟨0, .data⟩], none⟩).run K.P w1
  = .ok (.defer { target := .fn (.func 98) #[a1.tmps.getD 4 undef, a1.tmps.getD 5 undef, a1.tmps.getD 6 undef], args := #[] }) w1 := by
  simp [Oper.semAt, execOp, Go.resolve, e7, Fence.wide, Deferred.ofValue, Result.andThen]; simp [fv]
 rw [Ox, Oper.uponIn_defer]
 show (Code.seq (.region 2 gw false) .ret).wpIn _ _ _ _ _ _
 let dd : Deferred := { target := .fn (.func 98) #[a1.tmps.getD 4 undef, a1.tmps.getD 5 undef, a1.tmps.getD 6 undef], args := #[] }
 let a2 : Act := { tmps := a1.tmps.setIfInBounds 7 fv, defers := dd :: a1.defers }
 show (Code.seq (.region 2 gw false) .ret).wpIn Fence.wide 0 K.P _ a2 w1
 let pO : Env := ((((Env.gX [r, .func (.func gf) first cap]).put 4 (.box a 0)).put 5 (.box b 0)).put 6 (.box c 0)).put 7 .any
 have r2 : fA g1 pO a2.tmps := r1.put (by rw [n1]; decide) (by simp only [az])
 let cJ : St := ((U.new a (.box [.a8])).new b (.box [.int .i64 0])).new c (.box [.bool false])
 have ab : a ≠ b := fun e => by subst e; simp [St.cY, St.new] at fb
 have ac : a ≠ c := fun e => by
  subst e
  have := fc.1
  simp only [St.new, if_true] at this
  split at this <;> cases this
 have bc : b ≠ c := fun e => by subst e; simp [St.cY, St.new] at fc
 have n2 : a2.tmps.size = 10 := by show (a1.tmps.setIfInBounds 7 fv).size = 10; simp [n1]
 have d2 : a2.defers = [dd] := by show dd :: a1.defers = _; rw [d1]
 have Y3 : a2.tmps.getD 4 undef = a1.tmps.getD 4 undef := by show (a1.tmps.setIfInBounds 7 fv).getD 4 undef = _; simp
 have Y4 : a2.tmps.getD 5 undef = a1.tmps.getD 5 undef := by show (a1.tmps.setIfInBounds 7 fv).getD 5 undef = _; simp
 have Y5 : a2.tmps.getD 6 undef = a1.tmps.getD 6 undef := by show (a1.tmps.setIfInBounds 7 fv).getD 6 undef = _; simp
 have deferred : ∀ {a3 : Act} {g3 : Gh} {cu : St} {w3 : World} {x : AV} {v : Value} {u u' : FrameMode} {Rn : St -> Prop}, Gh.Le g1 g3 -> a3.defers = [dd] -> aZ g3 cu w3 -> az g3 x v -> ((u = .returning /\ v = .nilIface /\ u' = .returning) \/ (u = .panicking [{ v, recovered := false }] /\ u' = .panicking [{ v, recovered := true }])) ->
  GP (.box a 0) (.box b 0) (.box c 0) x Rn cu -> (∀ g4 dI w4, Gh.Le g3 g4 -> aZ g4 dI w4 -> Rn dI -> LeavesInM Fence.wide 0 K.P Tryz.f54 a3.tmps (mv g R) [] (settle u') w4) ->
  LeavesInM Fence.wide 0 K.P Tryz.f54 a3.tmps (mv g R) a3.defers u w3 := by
  intro a3 g3 cu w3 x v u u' Rn l3 d3 s3 hx hu hr hk
  rw [d3]
  simp only [LeavesInM]
  have XY : aE g3 [.box a 0, .box b 0, .box c 0] [a1.tmps.getD 4 undef, a1.tmps.getD 5 undef, a1.tmps.getD 6 undef] := by
   simp only [aE]
   exact ⟨_, _, rfl, h4.mono l3, _, _, rfl, h5.mono l3, _, _, rfl, h6.mono l3, rfl⟩
  refine ⟨by rcases hu with ⟨rfl, _⟩ | ⟨rfl, _⟩ <;> simp, .inr ⟨fun hd => by simp [Fence.wide] at hd, .func 98, _, 98, _, rfl, OH _ _, fun _ _ => trivial, ?_⟩⟩
  have := SA (C := K) (f := 98) (fn := Tryz.f98) (id := 0) (d := 6) (vs := [a1.tmps.getD 4 undef, a1.tmps.getD 5 undef, a1.tmps.getD 6 undef]) (args := [.box a 0, .box b 0, .box c 0]) (hf := Tryz.func98) (hb := IK) (hres := by kernel_rfl) (hop := Yr) (hd := rfl) (hdn := by decide +kernel) (hg := rfl)
   (hlen := Nat.le_of_ble_eq_true (n := 3) (m := Tryz.f98.ntmps) (by kernel_rfl)) s3 (Qf.mono l3) XY hx hu Rn (Wi hr)
  refine CallsDIn.mono this ?_
  rintro e u2 w4 ⟨v', rfl, rfl, g4, dI, l4, s4, hn⟩
  exact hk g4 dI w4 l4 s4 hn
 refine wpIn_seq (wpIn_region ?_)
 rw [YM]
 simp only [wpOpsIn, So, Sq, Sr, Ss, Su, Region.wanted, if_true]
 refine nF (fr := none) (C := K) (nt := 10) (g := g1) (U := cJ) (ρ := pO) (mu := false) (ds := []) (K := fun x s => x = .func (.func gf) first cap /\ s = cJ) (Kp := fun _ _ => False) (by rfl) s1 Qf r2 n2 ?_ ?_ (fun _ _ _ _ _ _ _ _ hf => hf.elim)
 · exact ⟨rfl, rfl⟩
 rintro g2 ae w2 x v l2 s2 hx ⟨rfl, rfl⟩
 have r3 : fA g2 (pO.put 8 (.func (.func gf) first cap)) (a2.put (some 8) v).tmps := (r2.mono l2).put (by rw [n2]; decide) hx
 have n3 : (a2.put (some 8) v).tmps.size = 10 := by rw [(lW _ _ _).2]; exact n2
 refine nF (fr := none) (C := K) (nt := 10) (g := g2) (U := cJ) (ρ := pO.put 8 (.func (.func gf) first cap)) (mu := false) (ds := []) (K := fun x s => EJ 136 a b c R (.ret x) s) (Kp := fun x s => EJ 136 a b c R (.panic x) s) (by rfl) s2 (Qf.mono l2) r3 n3 ?_ ?_ ?_
 · show ((gp K.P (.func (.func gf) first cap) []).wp K cJ _ _)
   simp only [gp, qN, if_true, jk, iy]
   refine (h a b c fa fb fc).mono fun res ae hres => ?_
   cases res <;> exact hres
 · rintro g3 cu w3 x v3 l3 s3 VG ⟨Qz, ⟨xa, ba⟩, ⟨xb, bb⟩, ⟨xc, bcx⟩, hR⟩
   have hcv : ay x = [x] := by cases x <;> first | rfl | cases Qz
   have rJ : x.cQ = true := by cases x <;> first | rfl | cases Qz
   have r4 : fA g3 ((pO.put 8 (.func (.func gf) first cap)).put 9 x) ((a2.put (some 8) v).put (some 9) v3).tmps := (r3.mono l3).put (by rw [n3]; decide) VG
   have n4 : ((a2.put (some 8) v).put (some 9) v3).tmps.size = 10 := by rw [(lW _ _ _).2]; exact n3
   have UM := Qf.mono (l2.trans l3)
   refine nF (fr := none) (C := K) (nt := 10) (g := g3) (U := cu) (ρ := (pO.put 8 (.func (.func gf) first cap)).put 9 x) (mu := false) (ds := []) (K := fun y s => s = cu.bU a [x]) (Kp := fun _ _ => False) (by rfl) s3 UM r4 n4 ?_ ?_ (fun _ _ _ _ _ _ _ _ hf => hf.elim)
   · rw [<- rh]
     show (aL (lA K.P 87) (.box a 0) x cu).wp K cu _ _
     rw [abx, kr ba]
     simp only [wp_cond, jG, hcv]
     exact ⟨⟨rJ, rfl, by simp⟩, rfl⟩
   rintro g4 _ w4 _ _ l4 s4 _ rfl
   refine nF (fr := none) (C := K) (nt := 10) (g := g4) (U := cu.bU a [x]) (ρ := (pO.put 8 (.func (.func gf) first cap)).put 9 x) (mu := false) (ds := []) (K := fun y s => s = (cu.bU a [x]).bU b [.int .i64 0]) (Kp := fun _ _ => False) (by rfl) s4 (UM.mono l4) (r4.mono l4) n4 ?_ ?_ (fun _ _ _ _ _ _ _ _ hf => hf.elim)
   · rw [<- rh]
     show (aL (lA K.P 3) (.box b 0) (.int .i64 0) (cu.bU a [x])).wp K _ _ _
     have : (cu.bU a [x]).box b = some [xb] := by simp only [St.bU]; rw [oZ, if_neg (Ne.symm ab)]; exact bb
     rw [vT3, kr this]
     simp only [wp_cond, jG]
     exact ⟨by simp, rfl⟩
   rintro g5 _ w5 _ _ l5 s5 _ rfl
   refine nF (fr := none) (C := K) (nt := 10) (g := g5) (U := (cu.bU a [x]).bU b [.int .i64 0]) (ρ := (pO.put 8 (.func (.func gf) first cap)).put 9 x) (mu := false) (ds := []) (K := fun y s => s = ((cu.bU a [x]).bU b [.int .i64 0]).bU c [.bool true]) (Kp := fun _ _ => False) (by rfl) s5 (UM.mono (l4.trans l5)) (r4.mono (l4.trans l5)) n4 ?_ ?_ (fun _ _ _ _ _ _ _ _ hf => hf.elim)
   · rw [<- rh]
     show (aL (lA K.P 4) (.box c 0) (.bool true) ((cu.bU a [x]).bU b [.int .i64 0])).wp K _ _ _
     have : ((cu.bU a [x]).bU b [.int .i64 0]).box c = some [xc] := by simp only [St.bU]; rw [oZ, if_neg (Ne.symm bc), oZ, if_neg (Ne.symm ac)]; exact bcx
     rw [vT4, kr this]
     simp only [wp_cond, jG]
     exact ⟨by simp, rfl⟩
   rintro g6 _ w6 _ _ l6 s6 _ rfl
   show Code.wpIn Fence.wide 0 K.P .ret _ _ _
   refine wpIn_ret ?_
   have ZZ := l2.trans (l3.trans (l4.trans (l5.trans l6)))
   refine deferred (a3 := (a2.put (some 8) v).put (some 9) v3) (x := .cW) (v := .nilIface) (u := .returning) (u' := .returning) (Rn := fun s => s = ((cu.bU a [x]).bU b [.int .i64 0]).bU c [.bool true]) ZZ d2 s6 (by simp only [az]) (.inl ⟨rfl, rfl, rfl⟩) (Sz rfl) ?_
   rintro g7 nq w7 l7 s7 rfl
   exact QN (l1.trans (ZZ.trans l7)) s7 (r4.mono ((l4.trans (l5.trans l6)).trans l7)) rfl rfl rfl (by simp [St.bU, ac, ab]) (by simp [St.bU, bc]) (by simp [St.bU]) hR
 · rintro g3 cu w3 x v3 l3 s3 VG ⟨at_, rfl, ⟨xa, ka⟩, ⟨xb, kb⟩, ⟨xc, kc⟩, hR⟩
   show LeavesInM Fence.wide 0 K.P Tryz.f54 (a2.put (some 8) v).tmps (mv g R) (a2.put (some 8) v).defers _ w3
   refine deferred (a3 := a2.put (some 8) v) (u := .panicking [{ v := v3, recovered := false }]) (u' := .panicking [{ v := v3, recovered := true }]) (Rn := fun s => ∃ q, cu.cY q /\ s = ((((cu.new q (.box [.int .i64 at_])).bU a [.a8]).bU b [.int .i64 at_]).bU c [.bool false])) (l2.trans l3) d2 s3 VG (.inr ⟨rfl, rfl⟩) (Ky ka kb kc fun q hq => ⟨q, hq, rfl⟩) ?_
   rintro g4 dI w4 l4 s4 ⟨q, hq, rfl⟩
   exact QN (l1.trans ((l2.trans l3).trans l4)) s4 ((r3.mono l3).mono l4) rfl rfl rfl (by simp [St.bU, ac, ab]) (by simp [St.bU, bc]) (by simp [St.bU]) (hR q hq)
end Go.Rip
namespace Go.Rip
open Go.Proofs
abbrev dz : An := .rg [] [] none
abbrev aM (a b : An) : An := .sq none a b
abbrev ai (b : An) : An := .sq none (.rg [] [] none) b
abbrev aD : BT := BT.mk false false false none false
abbrev aK : Option (Bool × Nat) := some (false, 1)
theorem bu {f : FuncId} {args : List AV} {R : cD -> St -> Prop} {U : St} {P : Prop} (fn : Func) (an : An) (h : P) (h1 : K.P.funcs[f]? = some fn := by kernel_rfl) (h2 : okF fn an args.length = true := by kernel_rfl) (h3 : P = G8 K fn an args R U := by kernel_rfl) : af K f args U R :=
 af.Sh CL an h1 h2 (Eq.mp h3 h)
end Go.Rip
