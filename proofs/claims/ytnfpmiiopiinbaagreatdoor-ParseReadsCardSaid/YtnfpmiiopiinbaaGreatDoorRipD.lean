/- Lemmas for the proof: no conditions. -/
import Derived.Test.YtnfpmiiopiinbaaGreatDoorRipZz
import Derived.KernelRfl
import Derived.Lib.LaidTab
import Derived.Lib.ItoaNum
import Derived.Test.YtnfpmiiopiinbaaGreatDoorProg
import Derived.Test.YtnfpmiiopiinbaaGreatDoorRipC
set_option linter.unusedVariables false
set_option linter.unusedSimpArgs false
set_option linter.loopingSimpArgs false
namespace Go.Rip
def w_ : List UInt8 := []
def Ca : List UInt8 := [10]
def o8 : List UInt8 := [33]
def fR : List UInt8 := [40]
def eF : List UInt8 := [41]
def so : List UInt8 := [42]
def sr : List UInt8 := [43]
def nB : List UInt8 := [44]
def su : List UInt8 := [45]
def gy : List UInt8 := [45, 62]
def zm : List UInt8 := [46]
def ja : List UInt8 := [58]
def cx : List UInt8 := [58, 61]
def gE : List UInt8 := [59]
def sv : List UInt8 := [60]
def lJ : List UInt8 := [61]
def dG : List UInt8 := [61, 60, 43, 45, 42, 33, 40, 41, 123, 125, 44, 59, 58, 46]
def wM : List UInt8 := [123]
def zn : List UInt8 := [125]
def ub : List UInt8 := [97, 110, 100]
def tq : List UInt8 := [97, 115]
def yP : List UInt8 := [98, 111, 111, 108]
def rN : List UInt8 := [99, 101, 108, 108]
def ly : List UInt8 := [99, 104, 111, 111, 115, 101]
def Ce : List UInt8 := [99, 111, 109]
def jS : List UInt8 := [100, 101, 102]
def AN : List UInt8 := [100, 111]
def jI : List UInt8 := [101, 108, 115, 101]
def ff : List UInt8 := [101, 120, 112, 111, 114, 116]
def gG : List UInt8 := [102, 97, 108, 115, 101]
def Dc : List UInt8 := [102, 110]
def Cf : List UInt8 := [103, 101, 116]
def kZ : List UInt8 := [104, 97, 110, 103]
def yS : List UInt8 := [105, 102]
def fA : List UInt8 := [105, 109, 112, 111, 114, 116]
def pv : List UInt8 := [105, 110]
def wN : List UInt8 := [105, 110, 116]
def mS : List UInt8 := [106, 117, 109, 112]
def qZ : List UInt8 := [108, 97, 98, 101, 108]
def wP : List UInt8 := [110, 101, 119]
def Cg : List UInt8 := [110, 111, 116]
def mI : List UInt8 := [110, 111, 116, 105, 99, 101]
def ZI : List UInt8 := [111, 102]
def yT : List UInt8 := [111, 114]
def Ch : List UInt8 := [112, 117, 116]
def jJ : List UInt8 := [115, 107, 105, 112]
def tt : List UInt8 := [116, 104, 101, 110]
def gq : List UInt8 := [116, 114, 117, 101]
def pQ : List UInt8 := [119, 104, 105, 108, 101]
end Go.Rip
namespace Go.Rip
open Go.Proofs
def uP : List AV := (List.range 256).map fun c => .int .u8 (if c = 9 \/ c = 10 \/ c = 11 \/ c = 12 \/ c = 13 \/ c = 32 then 1 else 0)
def vo : List AV := (List.range 20).map fun c => .int .u64 (10 ^ c : Nat)
noncomputable def K : cV := ⟨Tryz.prog, fun i => if i = 0 then .cP uP else if i = 7 then .cP vo else .any, fun i => if i = 7 then some (Lib.pow10Tab.map fun z => Value.int .u64 z).toArray else none⟩
theorem EL : K.P.follows .mixedOrders = true := by show Tryz.prog.follows .mixedOrders = true; kernel_rfl
end Go.Rip
set_option maxRecDepth 100000
namespace Go.Rip
open Go.Proofs Go.RowKit
noncomputable def yB : Code := match Tryz.f98.body with | some (.seq _ c) => c | _ => .skip
def Qm : An := .bk (.sq none (.rg [] [] none) (.cd (.rg [] [] none) (.sq none (.rg [] [] none) (.cd (.sq none (.rg [] [] none) (.rg [] [] (some ⟨[(true, 0), (true, 1), (false, 2), (false, 3), (false, 4)], [⟨4096, 16, 0⟩, ⟨8192, 4096, 1⟩, ⟨0, 1, 0⟩, ⟨0, 8194, 7⟩, ⟨0, 4, 15⟩]⟩))) (.sq none (.rg [] [] none) (.rg [] [] none))))))
def I6 (a0 a1 a2 x : AV) (Rn : St -> Prop) (U : St) : Prop :=
 (aq .eql (BT.mk false true false none) true x AV.dq).wp K U (fun v8 U =>
 ao v8 (
  Rn U) (
  (uJ (some (AV.agg [AV.int .i64 0])) x 136 true).wp K U (fun v9 U =>
  (aX v9 1).wp K U (fun v10 U =>
  (aX v9 0).wp K U (fun v11 U =>
  ao v10 (
   (aw.cJ [AV.int .i64 0]).wp K U (fun v4 U =>
   (aD (some (true, 1)) v4 v11 U).wp K U (fun _ U =>
   (fun ay : St =>
   ar K (ag (some 0) v4) (fun v12 =>
   ar K (av (some (false, 1)) v12 ay) (fun bN =>
   (aD (some (false, 1)) a0 AV.bj U).wp K U (fun _ U => cv ((cr v12 ++ []) ++ []) ay U /\
   (aD (some (false, 1)) a1 bN U).wp K U (fun _ U => cv ((cr v12 ++ []) ++ []) ay U /\
   (aD (some (false, 1)) a2 (AV.bool false) U).wp K U (fun _ U =>
   Rn U) (fun _ _ => False)) (fun _ _ => False)) (fun _ _ => False)))) U) (fun _ _ => False)) (fun _ _ => False)) (
   (th x).wp K U (fun _ U =>
   Rn U) (fun _ _ => False))) (fun _ _ => False)) (fun _ _ => False)) (fun _ _ => False))) (fun _ _ => False)
theorem Y2 {a0 a1 a2 x : AV} {Rn : St -> Prop} {U : St} (h : I6 a0 a1 a2 x Rn U) : bO K 14 .bare yB (SO Rn) ((Env.jg [a0, a1, a2]).put 6 x) U := by
 have h2 : oa K yB Qm ⟨fun _ U => Rn U, fun _ _ _ => False, fun _ U => Rn U, fun _ _ => False⟩ ((Env.jg [a0, a1, a2]).put 6 x) U :=
  Eq.mp (show I6 a0 a1 a2 x Rn U = oa K yB Qm ⟨fun _ U => Rn U, fun _ _ _ => False, fun _ U => Rn U, fun _ _ => False⟩ ((Env.jg [a0, a1, a2]).put 6 x) U by kernel_rfl) h
 refine (yU (nt := 14) EL yB Qm false .bare _ _ _ (by kernel_rfl) (fun h => by cases h) h2).mono fun e ρ U he => ?_
 cases e with
 | normal => exact he
 | ret => exact he
 | exit i => exact he.elim
 | panic x => exact he.elim
theorem St.dB.ne {U : St} {q b : Nat} {l : List AV} (h : U.dB q) (hb : U.box b = some l) : b ≠ q := fun e => by
 subst e
 obtain ⟨y, this, _⟩ := St.sK hb
 rw [h.1] at this; cases this
@[simp] theorem qF (U : St) (b y : Nat) (l : List AV) : (U.set b (.box l)).box y = if y = b then some l else U.box y := by
 simp only [St.box, St.set]; by_cases h : y = b <;> simp [h]
@[simp] theorem Cy (U : St) (b y : Nat) (l : List AV) : (U.new b (.box l)).box y = if y = b then some l else U.box y := by
 simp only [St.box, St.new]; by_cases h : y = b <;> simp [h]
theorem Vc {a0 a1 a2 : AV} {Rn : St -> Prop} {U : St} (h : Rn U) : I6 a0 a1 a2 .dq Rn U := by
 show ((true = true -> Rn U) /\ _)
 exact ⟨fun _ => h, fun h => by cases h⟩
theorem MT {a b c : Nat} {at_ : Int} {x y z : AV} {Rn : St -> Prop} {U : St} (ha : U.box a = some [x]) (hb : U.box b = some [y]) (hc : U.box c = some [z])
 (h : ∀ q, U.dB q -> Rn ((((U.new q (.box [.int .i64 at_])).cw a [.bj]).cw b [.int .i64 at_]).cw c [.bool false])) : I6 (.box a 0) (.box b 0) (.box c 0) (.iface 136 (.agg [.int .i64 at_])) Rn U := by
 have e1 : (aq .eql (BT.mk false true false none) true (.iface 136 (.agg [.int .i64 at_])) AV.dq) = .val (.bool false) := rfl
 have e2 : (uJ (some (AV.agg [AV.int .i64 0])) (.iface 136 (.agg [.int .i64 at_])) 136 true) = .val (.aU [.agg [.int .i64 at_], .bool true]) := rfl
 simp only [I6, e1, e2, aj, aE, aK, bC, List.drop_succ_cons, eR, dO, oc]
 intro q hq
 have qa := hq.ne ha
 have qb := hq.ne hb
 have qc := hq.ne hc
 have s1 : (U.new q (.box [AV.int .i64 0])).box q = some [AV.int .i64 0] := by simp
 simp only [NV.at]
 rw [mi s1]
 simp only [wp_cond, k0]
 refine ⟨by simp, ?_⟩
 simp only [aR, aJ]
 have e3 : (U.new q (.box [AV.int .i64 0])).set q (.box (az [AV.int .i64 0] 0 (aC (.agg [.int .i64 at_])))) = U.new q (.box [.int .i64 at_]) := by
  simp only [St.set, St.new, St.mk.injEq, and_true]
  funext y
  split <;> rfl
 rw [e3]
 have s2 : (U.new q (.box [AV.int .i64 at_])).box q = some [AV.int .i64 at_] := by simp
 rw [s9 s2]
 simp only [Nat.add_zero, eR, dO, aJ]
 have s3 : (U.new q (.box [AV.int .i64 at_])).box a = some [x] := by rw [Cy, if_neg qa]; exact ha
 rw [mi s3]
 simp only [wp_cond, k0, cv, cr, mB, nS, forall_eq]
 refine ⟨by simp, by simp [St.set, Ne.symm qa], ?_⟩
 have s4 : ((U.new q (.box [AV.int .i64 at_])).set a (.box (az [x] 0 (aC .bj)))).box b = some [y] \/ b = a := by
  by_cases e : b = a
  · exact .inr e
  · left; rw [qF, if_neg e, Cy, if_neg qb]; exact hb
 have s4' : ∃ y', ((U.new q (.box [AV.int .i64 at_])).set a (.box (az [x] 0 (aC .bj)))).box b = some [y'] := by
  rcases s4 with s4 | rfl
  · exact ⟨_, s4⟩
  · exact ⟨_, by rw [qF, if_pos rfl]; rfl⟩
 obtain ⟨y', s4⟩ := s4'
 rw [mi s4]
 simp only [wp_cond, k0]
 refine ⟨by simp, by simp [St.set, Ne.symm qa, Ne.symm qb], ?_⟩
 have s5' : ∃ z', (((U.new q (.box [AV.int .i64 at_])).set a (.box (az [x] 0 (aC .bj)))).set b (.box (az [y'] 0 (aC (.int .i64 at_))))).box c = some [z'] := by
  rw [qF]
  split
  · exact ⟨_, rfl⟩
  · rw [qF]
    split
    · exact ⟨_, rfl⟩
    · rw [Cy, if_neg qc]; exact ⟨_, hc⟩
 obtain ⟨z', s5⟩ := s5'
 rw [mi s5]
 simp only [wp_cond, k0]
 exact ⟨by simp, h q hq⟩
end Go.Rip
set_option maxRecDepth 100000
namespace Go.Rip
open Go.Proofs Go.RowKit
noncomputable def MP : Array Oper := match Tryz.f54.body with | some (.seq (.region _ o _) _) => o | _ => #[]
noncomputable def rF : Array Oper := match Tryz.f54.body with | some (.seq _ (.seq (.region _ o _) _)) => o | _ => #[]
noncomputable def iy : Array Oper := match Tryz.f54.body with | some (.seq _ (.seq _ (.seq (.region _ o _) _))) => o | _ => #[]
theorem Xo : Tryz.f54.body = some (.seq (.region 0 MP false) (.seq (.region 1 rF false) (.seq (.region 2 iy false) .ret))) := by kernel_rfl
theorem U2 : rF[0]? = some ⟨some 7, .makeFunc (.func 98) #[] #[.tmp 4, .tmp 5, .tmp 6], 1, (rF.getD 0 default).pos, #[], none⟩ := by kernel_rfl
theorem U3 : rF[1]? = some ⟨none, .defer { callee := .value (.tmp 7), args := #[], argTypes := #[] }, 0, (rF.getD 1 default).pos, #[⟨0, .data⟩], none⟩ := by kernel_rfl
theorem U4 : iy[0]? = some ⟨some 8, .move (.tmp 1), 90, (iy.getD 0 default).pos, (iy.getD 0 default).after, none⟩ := by kernel_rfl
theorem U5 : iy[1]? = some ⟨some 9, .call { callee := .value (.tmp 8), args := #[], argTypes := #[] }, 87, (iy.getD 1 default).pos, (iy.getD 1 default).after, none⟩ := by kernel_rfl
theorem U6 : iy[2]? = some ⟨none, .store 87 (.tmp 4) (.tmp 9), 0, (iy.getD 2 default).pos, (iy.getD 2 default).after, none⟩ := by kernel_rfl
theorem U7 : iy[3]? = some ⟨none, .store 3 (.tmp 5) (.const (.int .i64 0)), 0, (iy.getD 3 default).pos, (iy.getD 3 default).after, none⟩ := by kernel_rfl
theorem U8 : iy[4]? = some ⟨none, .store 4 (.tmp 6) (.const (.bool true)), 0, (iy.getD 4 default).pos, (iy.getD 4 default).after, none⟩ := by kernel_rfl
theorem abd : List.range iy.size = [0, 1, 2, 3, 4] := by kernel_rfl
theorem acT : nu K.P 87 = some (false, 1) := by kernel_rfl
theorem vT3 : nu K.P 3 = some (false, 1) := by kernel_rfl
theorem vT4 : nu K.P 4 = some (false, 1) := by kernel_rfl
theorem abc : List.range rF.size = [0, 1] := by kernel_rfl
theorem HG {nt id : Nat} {ops : Array Oper} {Q : Qx} {ρ : Env} {U : St} (cW : mz nt ops = true) (h : uz K [] [] ops ops.toList ρ U Q.n Q.p) : bO K nt .bare (.region id ops false) Q.q ρ U :=
 yU (nt := nt) EL (.region id ops false) (.rg [] [] none) false .bare Q ρ U cW (fun h => by cases h) h
noncomputable def YV : Oper := match Tryz.f98.body with | some (.seq (.region _ o _) _) => o.getD 0 default | _ => default
theorem K9 : Tryz.f98.body = some (.seq (.region 0 #[⟨some 6, .call { callee := .builtin .recover, args := #[], argTypes := #[] }, 20, YV.pos, #[], none⟩] false) yB) := by kernel_rfl
theorem YP : (Tryz.f98.name == "runtime.NumGoroutine") = false := by kernel_rfl
theorem Rb (captured : Array Value) (w : World) : (invoke (.fn (.func 98) captured) #[]).run K.P w = .ok (.enter 98 captured) w := by
 have hfn : K.P.funcs[98]? = some Tryz.f98 := Tryz.func98
 have h1 : Tryz.f98.name ≠ "runtime.NumGoroutine" := by simpa using YP
 simp [invoke, callFunc, hfn, h1, K9, Result.andThen, run_program]
theorem aaV (ev : Operand -> Value) (w : World) : (execOp ev ⟨some 6, .call { callee := .builtin .recover, args := #[], argTypes := #[] }, 20, YV.pos, #[], none⟩).run K.P w = .ok .recover w := by
 simp [execOp, Go.resolve, invoke, builtin, Result.andThen]
theorem TK {g0 g : Gh} {U : St} {w : World} {ρ : Env} {tmps : Array Value} {a b c : Nat} {x y z : AV} {R : cS -> St -> Prop} (hle : Gh.Le g0 g) (hs : br g U w) (hr : gr g ρ tmps)
 (h4 : ρ.get 4 = .box a 0) (h5 : ρ.get 5 = .box b 0) (h6 : ρ.get 6 = .box c 0) (ha : U.box a = some [x]) (hb : U.box b = some [y]) (hc : U.box c = some [z]) (hR : R (.ret (.aU [x, y, z])) U) :
 LeavesInM Fence.wide 0 K.P Tryz.f54 tmps (oo g0 R) [] .returning w := by
 have hk : uE K.P ρ U Tryz.f54.results.toList fun vs => R (.ret (uH vs)) U := by
  refine vq _ _ ?_
  refine Eq.mp (show (bL (some (false, 1)) (ρ.get 4) U fun x => bL (some (false, 1)) (ρ.get 5) U fun y => bL (some (false, 1)) (ρ.get 6) U fun z => R (.ret (.aU [x, y, z])) U) = _ by kernel_rfl) ?_
  rw [h4, h5, h6]
  simp only [bL, s9 ha, s9 hb, s9 hc, eR, dO]
  exact hR
 obtain ⟨v, xs, gJ, hv, hk⟩ := zT (a := { tmps := tmps, defers := [] }) (fn := Tryz.f54) hs hr hk
 exact ⟨v, gJ, g, U, _, hle, hs, hv, hk⟩
theorem AJ : HP K 136 54 := by
 intro r gf first cap U R sS h g w vs hs hG ha
 have hl := ha.length
 refine callsIn_of_wp_marks Tryz.func54 Xo trivial ?_
 have CJ := Ad [r, .func (.func gf) first cap] vs (Tryz.f54.ntmps - vs.toArray.size) ha
 have hnt : Tryz.f54.ntmps = 10 := by kernel_rfl
 have fi : (vs.toArray ++ Array.replicate (Tryz.f54.ntmps - vs.toArray.size) undef).size = 10 := by rw [hnt]; simp at hl ⊢; omega
 generalize vs.toArray ++ Array.replicate (Tryz.f54.ntmps - vs.toArray.size) undef = tm0 at CJ fi
 have c0 : bO K 10 .bare (.region 0 MP false) (Qx.q ⟨fun ρ af => ∃ a b c, U.dB a /\ (U.new a (.box [.bj])).dB b /\ ((U.new a (.box [.bj])).new b (.box [.int .i64 0])).dB c /\
  ρ = (((Env.jg [r, .func (.func gf) first cap]).put 4 (.box a 0)).put 5 (.box b 0)).put 6 (.box c 0) /\ af = (((U.new a (.box [.bj])).new b (.box [.int .i64 0])).new c (.box [.bool false])), fun _ _ _ => False, fun _ _ => False, fun _ _ => False⟩)
  (Env.jg [r, .func (.func gf) first cap]) U := by
  refine HG (by kernel_rfl) ?_
  refine Eq.mp (show (∀ a, U.dB a -> ∀ b, (U.new a (.box [.bj])).dB b -> ∀ c, ((U.new a (.box [.bj])).new b (.box [.int .i64 0])).dB c ->
   (fun (ρ : Env) (af : St) => ∃ a b c, U.dB a /\ (U.new a (.box [.bj])).dB b /\ ((U.new a (.box [.bj])).new b (.box [.int .i64 0])).dB c /\
   ρ = (((Env.jg [r, .func (.func gf) first cap]).put 4 (.box a 0)).put 5 (.box b 0)).put 6 (.box c 0) /\ af = (((U.new a (.box [.bj])).new b (.box [.int .i64 0])).new c (.box [.bool false])))
    ((((Env.jg [r, .func (.func gf) first cap]).put 4 (.box a 0)).put 5 (.box b 0)).put 6 (.box c 0)) (((U.new a (.box [.bj])).new b (.box [.int .i64 0])).new c (.box [.bool false]))) = _ by kernel_rfl) ?_
  exact fun a ha b hb c hc => ⟨a, b, c, ha, hb, hc, rfl, rfl⟩
 refine wpIn_seq (wpIn_mono (c0 g w { tmps := tm0, defers := [] } none hs hG CJ fi trivial) ?_)
 rintro e a1 w1 ⟨n1, g1, bP, ρ1, ms, d1, m1, l1, s1, r1, q1⟩
 have xQ : ms = [] := m1.none rfl
 subst xQ
 simp only [jk, oJ] at d1
 cases e <;> simp only [Fj, Qx.q] at q1
 case panic => obtain ⟨_, _, _, _, hf⟩ := q1; exact hf.elim
 obtain ⟨a, b, c, fa, fb, fc, rfl, rfl⟩ := q1
 have SV := hG.mono l1
 refine wpIn_seq (wpIn_region ?_)
 rw [abc]
 simp only [wpOpsIn, U2, U3, Region.wanted, if_true]
 have h4 := r1 4; have h5 := r1 5; have h6 := r1 6; have h1 := r1 1
 simp only [Env.put, Env.jg] at h4 h5 h6 h1
 have h4 : aB g1 (.box a 0) (a1.tmps.getD 4 undef) := h4
 have h5 : aB g1 (.box b 0) (a1.tmps.getD 5 undef) := h5
 have h6 : aB g1 (.box c 0) (a1.tmps.getD 6 undef) := h6
 refine ⟨fun _ _ => trivial, ?_⟩
 let fv : Value := .func (.func 98) #[] #[a1.tmps.getD 4 undef, a1.tmps.getD 5 undef, a1.tmps.getD 6 undef]
 have hmk : (Oper.semAt Fence.wide.round a1.eval ⟨some 7, .makeFunc (.func 98) #[] #[.tmp 4, .tmp 5, .tmp 6], 1, (rF.getD 0 default).pos, #[], none⟩).run K.P w1 = .ok (.value fv) w1 := by
  simp [Oper.semAt, execOp, fv, Act.eval, Fence.wide, Instr.makeFunc, Result.andThen]
 rw [hmk, Oper.uponIn_value]
 have e7 : (a1.put (some 7) fv).eval (.tmp 7) = fv := by
  show (a1.tmps.setIfInBounds 7 fv).getD 7 undef = fv
  simp [n1]
 refine ⟨fun _ _ => trivial, ?_⟩
 have QY : (Oper.semAt Fence.wide.round (a1.put (some 7) fv).eval ⟨none, .defer { callee := .value (.tmp 7), args := #[], argTypes := #[] }, 0, (rF.getD 1 default).pos, #[⟨0, .data⟩], none⟩).run K.P w1
  = .ok (.defer { target := .fn (.func 98) #[a1.tmps.getD 4 undef, a1.tmps.getD 5 undef, a1.tmps.getD 6 undef], args := #[] }) w1 := by
  simp [Oper.semAt, execOp, Go.resolve, e7, Fence.wide, Deferred.ofValue, Result.andThen]; simp [fv]
 rw [QY, Oper.uponIn_defer]
 show (Code.seq (.region 2 iy false) .ret).wpIn _ _ _ _ _ _
 let dd : Deferred := { target := .fn (.func 98) #[a1.tmps.getD 4 undef, a1.tmps.getD 5 undef, a1.tmps.getD 6 undef], args := #[] }
 let a2 : Act := { tmps := a1.tmps.setIfInBounds 7 fv, defers := dd :: a1.defers }
 show (Code.seq (.region 2 iy false) .ret).wpIn Fence.wide 0 K.P _ a2 w1
 let rP : Env := ((((Env.jg [r, .func (.func gf) first cap]).put 4 (.box a 0)).put 5 (.box b 0)).put 6 (.box c 0)).put 7 .any
 have r2 : gr g1 rP a2.tmps := r1.put (by rw [n1]; decide) (by simp only [aB])
 let bQ : St := ((U.new a (.box [.bj])).new b (.box [.int .i64 0])).new c (.box [.bool false])
 have ab : a ≠ b := fun e => by subst e; simp [St.dB, St.new] at fb
 have ac : a ≠ c := fun e => by
  subst e
  have := fc.1
  simp only [St.new, if_true] at this
  split at this <;> cases this
 have bc : b ≠ c := fun e => by subst e; simp [St.dB, St.new] at fc
 have n2 : a2.tmps.size = 10 := by show (a1.tmps.setIfInBounds 7 fv).size = 10; simp [n1]
 have d2 : a2.defers = [dd] := by show dd :: a1.defers = _; rw [d1]
 have g4' : a2.tmps.getD 4 undef = a1.tmps.getD 4 undef := by show (a1.tmps.setIfInBounds 7 fv).getD 4 undef = _; simp
 have g5' : a2.tmps.getD 5 undef = a1.tmps.getD 5 undef := by show (a1.tmps.setIfInBounds 7 fv).getD 5 undef = _; simp
 have g6' : a2.tmps.getD 6 undef = a1.tmps.getD 6 undef := by show (a1.tmps.setIfInBounds 7 fv).getD 6 undef = _; simp
 have deferred : ∀ {a3 : Act} {g3 : Gh} {cz : St} {w3 : World} {x : AV} {v : Value} {u u' : FrameMode} {Rn : St -> Prop}, Gh.Le g1 g3 -> a3.defers = [dd] -> br g3 cz w3 -> aB g3 x v -> ((u = .returning /\ v = .nilIface /\ u' = .returning) \/ (u = .panicking [{ v, recovered := false }] /\ u' = .panicking [{ v, recovered := true }])) ->
  I6 (.box a 0) (.box b 0) (.box c 0) x Rn cz -> (∀ g4 dm w4, Gh.Le g3 g4 -> br g4 dm w4 -> Rn dm -> LeavesInM Fence.wide 0 K.P Tryz.f54 a3.tmps (oo g R) [] (settle u') w4) ->
  LeavesInM Fence.wide 0 K.P Tryz.f54 a3.tmps (oo g R) a3.defers u w3 := by
  intro a3 g3 cz w3 x v u u' Rn l3 d3 s3 hx hu hr hk
  rw [d3]
  simp only [LeavesInM]
  have aav : aN g3 [.box a 0, .box b 0, .box c 0] [a1.tmps.getD 4 undef, a1.tmps.getD 5 undef, a1.tmps.getD 6 undef] := by
   simp only [aN]
   exact ⟨_, _, rfl, h4.mono l3, _, _, rfl, h5.mono l3, _, _, rfl, h6.mono l3, rfl⟩
  refine ⟨by rcases hu with ⟨rfl, _⟩ | ⟨rfl, _⟩ <;> simp, .inr ⟨fun hd => by simp [Fence.wide] at hd, .func 98, _, 98, _, rfl, Rb _ _, fun _ _ => trivial, ?_⟩⟩
  have := Vf (C := K) (f := 98) (fn := Tryz.f98) (id := 0) (d := 6) (vs := [a1.tmps.getD 4 undef, a1.tmps.getD 5 undef, a1.tmps.getD 6 undef]) (args := [.box a 0, .box b 0, .box c 0]) (hf := Tryz.func98) (hb := K9) (hres := by kernel_rfl) (hop := aaV) (hd := rfl) (hdn := by decide +kernel) (hg := rfl)
   (hlen := Nat.le_of_ble_eq_true (n := 3) (m := Tryz.f98.ntmps) (by kernel_rfl)) s3 (SV.mono l3) aav hx hu Rn (Y2 hr)
  refine CallsDIn.mono this ?_
  rintro e u2 w4 ⟨v', rfl, rfl, g4, dm, l4, s4, hn⟩
  exact hk g4 dm w4 l4 s4 hn
 refine wpIn_seq (wpIn_region ?_)
 rw [abd]
 simp only [wpOpsIn, U4, U5, U6, U7, U8, Region.wanted, if_true]
 refine pk (fr := none) (C := K) (nt := 10) (g := g1) (U := bQ) (ρ := rP) (mu := false) (ds := []) (K := fun x s => x = .func (.func gf) first cap /\ s = bQ) (Kp := fun _ _ => False) (by rfl) s1 SV r2 n2 ?_ ?_ (fun _ _ _ _ _ _ _ _ hf => hf.elim)
 · exact ⟨rfl, rfl⟩
 rintro g2 af w2 x v l2 s2 hx ⟨rfl, rfl⟩
 have r3 : gr g2 (rP.put 8 (.func (.func gf) first cap)) (a2.put (some 8) v).tmps := (r2.mono l2).put (by rw [n2]; decide) hx
 have n3 : (a2.put (some 8) v).tmps.size = 10 := by rw [(nQ _ _ _).2]; exact n2
 refine pk (fr := none) (C := K) (nt := 10) (g := g2) (U := bQ) (ρ := rP.put 8 (.func (.func gf) first cap)) (mu := false) (ds := []) (K := fun x s => GU 136 a b c R (.ret x) s) (Kp := fun x s => GU 136 a b c R (.panic x) s) (by rfl) s2 (SV.mono l2) r3 n3 ?_ ?_ ?_
 · show ((lz K.P (.func (.func gf) first cap) []).wp K bQ _ _)
   simp only [lz, sS, if_true, wS, mB]
   refine (h a b c fa fb fc).mono fun res af hres => ?_
   cases res <;> exact hres
 · rintro g3 cz w3 x v3 l3 s3 BD ⟨Tp, ⟨xa, ba⟩, ⟨xb, bb⟩, ⟨xc, bcx⟩, hR⟩
   have hcv : aC x = [x] := by cases x <;> first | rfl | cases Tp
   have pZ : x.cN = true := by cases x <;> first | rfl | cases Tp
   have r4 : gr g3 ((rP.put 8 (.func (.func gf) first cap)).put 9 x) ((a2.put (some 8) v).put (some 9) v3).tmps := (r3.mono l3).put (by rw [n3]; decide) BD
   have n4 : ((a2.put (some 8) v).put (some 9) v3).tmps.size = 10 := by rw [(nQ _ _ _).2]; exact n3
   have XL := SV.mono (l2.trans l3)
   refine pk (fr := none) (C := K) (nt := 10) (g := g3) (U := cz) (ρ := (rP.put 8 (.func (.func gf) first cap)).put 9 x) (mu := false) (ds := []) (K := fun y s => s = cz.cw a [x]) (Kp := fun _ _ => False) (by rfl) s3 XL r4 n4 ?_ ?_ (fun _ _ _ _ _ _ _ _ hf => hf.elim)
   · rw [<- tg]
     show (aD (nu K.P 87) (.box a 0) x cz).wp K cz _ _
     rw [acT, mi ba]
     simp only [wp_cond, k0, hcv]
     exact ⟨⟨pZ, rfl, by simp⟩, rfl⟩
   rintro g4 _ w4 _ _ l4 s4 _ rfl
   refine pk (fr := none) (C := K) (nt := 10) (g := g4) (U := cz.cw a [x]) (ρ := (rP.put 8 (.func (.func gf) first cap)).put 9 x) (mu := false) (ds := []) (K := fun y s => s = (cz.cw a [x]).cw b [.int .i64 0]) (Kp := fun _ _ => False) (by rfl) s4 (XL.mono l4) (r4.mono l4) n4 ?_ ?_ (fun _ _ _ _ _ _ _ _ hf => hf.elim)
   · rw [<- tg]
     show (aD (nu K.P 3) (.box b 0) (.int .i64 0) (cz.cw a [x])).wp K _ _ _
     have : (cz.cw a [x]).box b = some [xb] := by simp only [St.cw]; rw [qF, if_neg (Ne.symm ab)]; exact bb
     rw [vT3, mi this]
     simp only [wp_cond, k0]
     exact ⟨by simp, rfl⟩
   rintro g5 _ w5 _ _ l5 s5 _ rfl
   refine pk (fr := none) (C := K) (nt := 10) (g := g5) (U := (cz.cw a [x]).cw b [.int .i64 0]) (ρ := (rP.put 8 (.func (.func gf) first cap)).put 9 x) (mu := false) (ds := []) (K := fun y s => s = ((cz.cw a [x]).cw b [.int .i64 0]).cw c [.bool true]) (Kp := fun _ _ => False) (by rfl) s5 (XL.mono (l4.trans l5)) (r4.mono (l4.trans l5)) n4 ?_ ?_ (fun _ _ _ _ _ _ _ _ hf => hf.elim)
   · rw [<- tg]
     show (aD (nu K.P 4) (.box c 0) (.bool true) ((cz.cw a [x]).cw b [.int .i64 0])).wp K _ _ _
     have : ((cz.cw a [x]).cw b [.int .i64 0]).box c = some [xc] := by simp only [St.cw]; rw [qF, if_neg (Ne.symm bc), qF, if_neg (Ne.symm ac)]; exact bcx
     rw [vT4, mi this]
     simp only [wp_cond, k0]
     exact ⟨by simp, rfl⟩
   rintro g6 _ w6 _ _ l6 s6 _ rfl
   show Code.wpIn Fence.wide 0 K.P .ret _ _ _
   refine wpIn_ret ?_
   have l16 := l2.trans (l3.trans (l4.trans (l5.trans l6)))
   refine deferred (a3 := (a2.put (some 8) v).put (some 9) v3) (x := .dq) (v := .nilIface) (u := .returning) (u' := .returning) (Rn := fun s => s = ((cz.cw a [x]).cw b [.int .i64 0]).cw c [.bool true]) l16 d2 s6 (by simp only [aB]) (.inl ⟨rfl, rfl, rfl⟩) (Vc rfl) ?_
   rintro g7 mT w7 l7 s7 rfl
   exact TK (l1.trans (l16.trans l7)) s7 (r4.mono ((l4.trans (l5.trans l6)).trans l7)) rfl rfl rfl (by simp [St.cw, ac, ab]) (by simp [St.cw, bc]) (by simp [St.cw]) hR
 · rintro g3 cz w3 x v3 l3 s3 BD ⟨at_, rfl, ⟨xa, ka⟩, ⟨xb, kb⟩, ⟨xc, kc⟩, hR⟩
   show LeavesInM Fence.wide 0 K.P Tryz.f54 (a2.put (some 8) v).tmps (oo g R) (a2.put (some 8) v).defers _ w3
   refine deferred (a3 := a2.put (some 8) v) (u := .panicking [{ v := v3, recovered := false }]) (u' := .panicking [{ v := v3, recovered := true }]) (Rn := fun s => ∃ q, cz.dB q /\ s = ((((cz.new q (.box [.int .i64 at_])).cw a [.bj]).cw b [.int .i64 at_]).cw c [.bool false])) (l2.trans l3) d2 s3 BD (.inr ⟨rfl, rfl⟩) (MT ka kb kc fun q hq => ⟨q, hq, rfl⟩) ?_
   rintro g4 dm w4 l4 s4 ⟨q, hq, rfl⟩
   exact TK (l1.trans ((l2.trans l3).trans l4)) s4 ((r3.mono l3).mono l4) rfl rfl rfl (by simp [St.cw, ac, ab]) (by simp [St.cw, bc]) (by simp [St.cw]) (hR q hq)
end Go.Rip
namespace Go.Rip
open Go.Proofs
abbrev cY : An := .rg [] [] none
abbrev aP (a b : An) : An := .sq none a b
abbrev ah (b : An) : An := .sq none (.rg [] [] none) b
abbrev aG : BT := BT.mk false false false none
abbrev aQ : Option (Bool × Nat) := some (false, 1)
theorem bA {f : FuncId} {args : List AV} {R : cS -> St -> Prop} {U : St} {P : Prop} (fn : Func) (an : An) (h : P) (h1 : K.P.funcs[f]? = some fn := by kernel_rfl) (h2 : okF fn an args.length = true := by kernel_rfl) (h3 : P = Jt K fn an args R U := by kernel_rfl) : ad K f args U R :=
 ad.U1 EL an h1 h2 (Eq.mp h3 h)
end Go.Rip
