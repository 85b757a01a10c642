/- Lemmas for the proof: no conditions. -/
import Derived.Test.YtnfpmiiopiinbaaGreatDoorRipZz
import Derived.KernelRfl
import Derived.Lib.LaidTab
import Derived.Lib.ItoaNum
import Derived.Test.YtnfpmiiopiinbaaGreatDoorProg
import Derived.Test.YtnfpmiiopiinbaaGreatDoorRipC
set_option linter.unusedVariables false
set_option linter.unusedSimpArgs false
set_option linter.loopingSimpArgs false
namespace Go.Rip
def w_ : List UInt8 := []
def zw : List UInt8 := [10]
def o6 : List UInt8 := [33]
def o7 : List UInt8 := [40]
def pW : List UInt8 := [41]
def wF : List UInt8 := [42]
def wG : List UInt8 := [43]
def wH : List UInt8 := [44]
def wI : List UInt8 := [45]
def iK : List UInt8 := [45, 62]
def zx : List UInt8 := [46]
def wJ : List UInt8 := [58]
def cV : List UInt8 := [58, 61]
def rJ : List UInt8 := [59]
def wK : List UInt8 := [60]
def wL : List UInt8 := [61]
def de : List UInt8 := [61, 60, 43, 45, 42, 33, 40, 41, 123, 125, 44, 59, 58, 46]
def wM : List UInt8 := [123]
def zy : List UInt8 := [125]
def zz : List UInt8 := [97, 110, 100]
def Eg : List UInt8 := [97, 115]
def MX : List UInt8 := [98, 111, 111, 108]
def MY : List UInt8 := [99, 101, 108, 108]
def oR : List UInt8 := [99, 104, 111, 111, 115, 101]
def Q8 : List UInt8 := [99, 111, 109]
def ur : List UInt8 := [100, 101, 102]
def At : List UInt8 := [100, 111]
def kP : List UInt8 := [101, 108, 115, 101]
def nu : List UInt8 := [101, 120, 112, 111, 114, 116]
def gq : List UInt8 := [102, 97, 108, 115, 101]
def Eh : List UInt8 := [102, 110]
def B5 : List UInt8 := [103, 101, 116]
def kQ : List UInt8 := [104, 97, 110, 103]
def yd : List UInt8 := [105, 102]
def nv : List UInt8 := [105, 109, 112, 111, 114, 116]
def qU : List UInt8 := [105, 110]
def Q9 : List UInt8 := [105, 110, 116]
def mS : List UInt8 := [106, 117, 109, 112]
def qe : List UInt8 := [108, 97, 98, 101, 108]
def wO : List UInt8 := [110, 101, 119]
def B6 : List UInt8 := [110, 111, 116]
def oT : List UInt8 := [110, 111, 116, 105, 99, 101]
def WE : List UInt8 := [111, 102]
def Ei : List UInt8 := [111, 114]
def B7 : List UInt8 := [112, 117, 116]
def jq : List UInt8 := [115, 107, 105, 112]
def te : List UInt8 := [116, 104, 101, 110]
def fU : List UInt8 := [116, 114, 117, 101]
def oU : List UInt8 := [119, 104, 105, 108, 101]
end Go.Rip
namespace Go.Rip
open Go.Proofs
def su : List AV := (List.range 256).map fun c => .int .u8 (if c = 9 \/ c = 10 \/ c = 11 \/ c = 12 \/ c = 13 \/ c = 32 then 1 else 0)
def sU : List AV := (List.range 20).map fun c => .int .u64 (10 ^ c : Nat)
noncomputable def K : cu := ⟨Tryz.prog, fun i => if i = 0 then .cj su else if i = 7 then .cj sU else .any, fun i => if i = 7 then some (Lib.pow10Tab.map fun z => Value.int .u64 z).toArray else none⟩
theorem B9 : K.P.follows .mixedOrders = true := by show Tryz.prog.follows .mixedOrders = true; kernel_rfl
end Go.Rip
set_option maxRecDepth 100000
namespace Go.Rip
open Go.Proofs Go.RowKit
noncomputable def vQ : Code := match Tryz.f98.body with | some (.seq _ c) => c | _ => .skip
def Na : An := .bk (.sq none (.rg [] [] none) (.cd (.rg [] [] none) (.sq none (.rg [] [] none) (.cd (.sq none (.rg [] [] none) (.rg [] [] (some ⟨[(true, 0), (true, 1), (false, 2), (false, 3), (false, 4)], [⟨4096, 16, 0⟩, ⟨8192, 4096, 1⟩, ⟨0, 1, 0⟩, ⟨0, 8194, 7⟩, ⟨0, 4, 15⟩]⟩))) (.sq none (.rg [] [] none) (.rg [] [] none))))))
def Gb (a0 a1 a2 x : AV) (Rn : St -> Prop) (U : St) : Prop :=
 (ak .eql (BT.mk false true false none false) true x AV.cN).wp K U (fun v8 U =>
 ao v8 (
  Rn U) (
  (sh (some (AV.agg [AV.int .i64 0])) x 136 true).wp K U (fun v9 U =>
  (bg v9 1).wp K U (fun v10 U =>
  (bg v9 0).wp K U (fun v11 U =>
  ao v10 (
   (av.cr [AV.int .i64 0]).wp K U (fun v4 U =>
   (aM (some (true, 1)) v4 v11 U).wp K U (fun _ U =>
   (fun aF : St =>
   aC K (ag (some 0) v4) (fun v12 =>
   aC K (aq (some (false, 1)) v12 aF) (fun bF =>
   (aM (some (false, 1)) a0 AV.a7 U).wp K U (fun _ U => c8 ((dM v12 ++ []) ++ []) aF U /\
   (aM (some (false, 1)) a1 bF U).wp K U (fun _ U => c8 ((dM v12 ++ []) ++ []) aF U /\
   (aM (some (false, 1)) a2 (AV.bool false) U).wp K U (fun _ U =>
   Rn U) (fun _ _ => False)) (fun _ _ => False)) (fun _ _ => False)))) U) (fun _ _ => False)) (fun _ _ => False)) (
   (qK x).wp K U (fun _ U =>
   Rn U) (fun _ _ => False))) (fun _ _ => False)) (fun _ _ => False)) (fun _ _ => False))) (fun _ _ => False)
theorem VI {a0 a1 a2 x : AV} {Rn : St -> Prop} {U : St} (h : Gb a0 a1 a2 x Rn U) : bz K 14 .bare vQ (Pz Rn) ((Env.gM [a0, a1, a2]).put 6 x) U := by
 have h2 : lU K vQ Na ⟨fun _ U => Rn U, fun _ _ _ => False, fun _ U => Rn U, fun _ _ => False⟩ ((Env.gM [a0, a1, a2]).put 6 x) U :=
  Eq.mp (show Gb a0 a1 a2 x Rn U = lU K vQ Na ⟨fun _ U => Rn U, fun _ _ _ => False, fun _ U => Rn U, fun _ _ => False⟩ ((Env.gM [a0, a1, a2]).put 6 x) U by kernel_rfl) h
 refine (wc (nt := 14) B9 vQ Na false .bare _ _ _ (by kernel_rfl) (fun h => by cases h) h2).mono fun e ρ U he => ?_
 cases e with
 | normal => exact he
 | ret => exact he
 | exit i => exact he.elim
 | panic x => exact he.elim
theorem St.cQ.ne {U : St} {q b : Nat} {l : List AV} (h : U.cQ q) (hb : U.box b = some l) : b ≠ q := fun e => by
 subst e
 obtain ⟨y, this, _⟩ := St.qj hb
 rw [h.1] at this; cases this
@[simp] theorem oB (U : St) (b y : Nat) (l : List AV) : (U.set b (.box l)).box y = if y = b then some l else U.box y := by
 simp only [St.box, St.set]; by_cases h : y = b <;> simp [h]
@[simp] theorem zK (U : St) (b y : Nat) (l : List AV) : (U.new b (.box l)).box y = if y = b then some l else U.box y := by
 simp only [St.box, St.new]; by_cases h : y = b <;> simp [h]
theorem R4 {a0 a1 a2 : AV} {Rn : St -> Prop} {U : St} (h : Rn U) : Gb a0 a1 a2 .cN Rn U := by
 show ((true = true -> Rn U) /\ _)
 exact ⟨fun _ => h, fun h => by cases h⟩
theorem JU {a b c : Nat} {at_ : Int} {x y z : AV} {Rn : St -> Prop} {U : St} (ha : U.box a = some [x]) (hb : U.box b = some [y]) (hc : U.box c = some [z])
 (h : ∀ q, U.cQ q -> Rn ((((U.new q (.box [.int .i64 at_])).bT a [.a7]).bT b [.int .i64 at_]).bT c [.bool false])) : Gb (.box a 0) (.box b 0) (.box c 0) (.iface 136 (.agg [.int .i64 at_])) Rn U := by
 have e1 : (ak .eql (BT.mk false true false none false) true (.iface 136 (.agg [.int .i64 at_])) AV.cN) = .val (.bool false) := rfl
 have e2 : (sh (some (AV.agg [AV.int .i64 0])) (.iface 136 (.agg [.int .i64 at_])) 136 true) = .val (.aQ [.agg [.int .i64 at_], .bool true]) := rfl
 simp only [Gb, e1, e2, ai, aV, bh, bR, List.drop_succ_cons, dX, dt, lV]
 intro q hq
 have qa := hq.ne ha
 have qb := hq.ne hb
 have qc := hq.ne hc
 have s1 : (U.new q (.box [AV.int .i64 0])).box q = some [AV.int .i64 0] := by simp
 simp only [NV.at]
 rw [j0 s1]
 simp only [wp_cond, jr]
 refine ⟨by simp, ?_⟩
 simp only [aU, aw]
 have e3 : (U.new q (.box [AV.int .i64 0])).set q (.box (aA [AV.int .i64 0] 0 (ax (.agg [.int .i64 at_])))) = U.new q (.box [.int .i64 at_]) := by
  simp only [St.set, St.new, St.mk.injEq, and_true]
  funext y
  split <;> rfl
 rw [e3]
 have s2 : (U.new q (.box [AV.int .i64 at_])).box q = some [AV.int .i64 at_] := by simp
 rw [qD s2]
 simp only [Nat.add_zero, dX, dt, aw]
 have s3 : (U.new q (.box [AV.int .i64 at_])).box a = some [x] := by rw [zK, if_neg qa]; exact ha
 rw [j0 s3]
 simp only [wp_cond, jr, c8, dM, jU, lg, forall_eq]
 refine ⟨by simp, by simp [St.set, Ne.symm qa], ?_⟩
 have s4 : ((U.new q (.box [AV.int .i64 at_])).set a (.box (aA [x] 0 (ax .a7)))).box b = some [y] \/ b = a := by
  by_cases e : b = a
  · exact .inr e
  · left; rw [oB, if_neg e, zK, if_neg qb]; exact hb
 have s4' : ∃ y', ((U.new q (.box [AV.int .i64 at_])).set a (.box (aA [x] 0 (ax .a7)))).box b = some [y'] := by
  rcases s4 with s4 | rfl
  · exact ⟨_, s4⟩
  · exact ⟨_, by rw [oB, if_pos rfl]; rfl⟩
 obtain ⟨y', s4⟩ := s4'
 rw [j0 s4]
 simp only [wp_cond, jr]
 refine ⟨by simp, by simp [St.set, Ne.symm qa, Ne.symm qb], ?_⟩
 have s5' : ∃ z', (((U.new q (.box [AV.int .i64 at_])).set a (.box (aA [x] 0 (ax .a7)))).set b (.box (aA [y'] 0 (ax (.int .i64 at_))))).box c = some [z'] := by
  rw [oB]
  split
  · exact ⟨_, rfl⟩
  · rw [oB]
    split
    · exact ⟨_, rfl⟩
    · rw [zK, if_neg qc]; exact ⟨_, hc⟩
 obtain ⟨z', s5⟩ := s5'
 rw [j0 s5]
 simp only [wp_cond, jr]
 exact ⟨by simp, h q hq⟩
end Go.Rip
set_option maxRecDepth 100000
namespace Go.Rip
open Go.Proofs Go.RowKit
noncomputable def JP : Array Oper := match Tryz.f54.body with | some (.seq (.region _ o _) _) => o | _ => #[]
noncomputable def pd : Array Oper := match Tryz.f54.body with | some (.seq _ (.seq (.region _ o _) _)) => o | _ => #[]
noncomputable def gn : Array Oper := match Tryz.f54.body with | some (.seq _ (.seq _ (.seq (.region _ o _) _))) => o | _ => #[]
theorem TY : Tryz.f54.body = some (.seq (.region 0 JP false) (.seq (.region 1 pd false) (.seq (.region 2 gn false) .ret))) := by kernel_rfl
theorem RS : pd[0]? = some ⟨some 7, .makeFunc (.func 98) #[] #[.tmp 4, .tmp 5, .tmp 6], 1, (pd.getD 0 default).pos, #[], none⟩ := by kernel_rfl
theorem RT : pd[1]? = some ⟨none, .defer { callee := .value (.tmp 7), args := #[], argTypes := #[] }, 0, (pd.getD 1 default).pos, #[⟨0, .data⟩], none⟩ := by kernel_rfl
theorem RU : gn[0]? = some ⟨some 8, .move (.tmp 1), 90, (gn.getD 0 default).pos, (gn.getD 0 default).after, none⟩ := by kernel_rfl
theorem RV : gn[1]? = some ⟨some 9, .call { callee := .value (.tmp 8), args := #[], argTypes := #[] }, 87, (gn.getD 1 default).pos, (gn.getD 1 default).after, none⟩ := by kernel_rfl
theorem RW : gn[2]? = some ⟨none, .store 87 (.tmp 4) (.tmp 9), 0, (gn.getD 2 default).pos, (gn.getD 2 default).after, none⟩ := by kernel_rfl
theorem RX : gn[3]? = some ⟨none, .store 3 (.tmp 5) (.const (.int .i64 0)), 0, (gn.getD 3 default).pos, (gn.getD 3 default).after, none⟩ := by kernel_rfl
theorem RY : gn[4]? = some ⟨none, .store 4 (.tmp 6) (.const (.bool true)), 0, (gn.getD 4 default).pos, (gn.getD 4 default).after, none⟩ := by kernel_rfl
theorem Yj : List.range gn.size = [0, 1, 2, 3, 4] := by kernel_rfl
theorem aba : lh K.P 87 = some (false, 1) := by kernel_rfl
theorem vT3 : lh K.P 3 = some (false, 1) := by kernel_rfl
theorem vT4 : lh K.P 4 = some (false, 1) := by kernel_rfl
theorem Yi : List.range pd.size = [0, 1] := by kernel_rfl
theorem EZ {nt id : Nat} {ops : Array Oper} {Q : Qx} {ρ : Env} {U : St} (cD : kx nt ops = true) (h : r9 K [] [] ops ops.toList ρ U Q.n Q.p) : bz K nt .bare (.region id ops false) Q.q ρ U :=
 wc (nt := nt) B9 (.region id ops false) (.rg [] [] none) false .bare Q ρ U cD (fun h => by cases h) h
noncomputable def VD : Oper := match Tryz.f98.body with | some (.seq (.region _ o _) _) => o.getD 0 default | _ => default
theorem H4 : Tryz.f98.body = some (.seq (.region 0 #[⟨some 6, .call { callee := .builtin .recover, args := #[], argTypes := #[] }, 20, VD.pos, #[], none⟩] false) vQ) := by kernel_rfl
theorem Vt : (Tryz.f98.name == "runtime.NumGoroutine") = false := by kernel_rfl
theorem NX (captured : Array Value) (w : World) : (invoke (.fn (.func 98) captured) #[]).run K.P w = .ok (.enter 98 captured) w := by
 have hfn : K.P.funcs[98]? = some Tryz.f98 := Tryz.func98
 have h1 : Tryz.f98.name ≠ "runtime.NumGoroutine" := by simpa using Vt
 simp [invoke, callFunc, hfn, h1, H4, Result.andThen, run_program]
theorem XZ (ev : Operand -> Value) (w : World) : (execOp ev ⟨some 6, .call { callee := .builtin .recover, args := #[], argTypes := #[] }, 20, VD.pos, #[], none⟩).run K.P w = .ok .recover w := by
 simp [execOp, Go.resolve, invoke, builtin, Result.andThen]
theorem Qg {g0 g : Gh} {U : St} {w : World} {ρ : Env} {tmps : Array Value} {a b c : Nat} {x y z : AV} {R : cB -> St -> Prop} (hle : Gh.Le g0 g) (hs : aY g U w) (hr : fg g ρ tmps)
 (h4 : ρ.get 4 = .box a 0) (h5 : ρ.get 5 = .box b 0) (h6 : ρ.get 6 = .box c 0) (ha : U.box a = some [x]) (hb : U.box b = some [y]) (hc : U.box c = some [z]) (hR : R (.ret (.aQ [x, y, z])) U) :
 LeavesInM Fence.wide 0 K.P Tryz.f54 tmps (l9 g0 R) [] .returning w := by
 have hk : sb K.P ρ U Tryz.f54.results.toList fun vs => R (.ret (sf vs)) U := by
  refine sV _ _ ?_
  refine Eq.mp (show (bl (some (false, 1)) (ρ.get 4) U fun x => bl (some (false, 1)) (ρ.get 5) U fun y => bl (some (false, 1)) (ρ.get 6) U fun z => R (.ret (.aQ [x, y, z])) U) = _ by kernel_rfl) ?_
  rw [h4, h5, h6]
  simp only [bl, qD ha, qD hb, qD hc, dX, dt]
  exact hR
 obtain ⟨v, xs, fy, hv, hk⟩ := xr (a := { tmps := tmps, defers := [] }) (fn := Tryz.f54) hs hr hk
 exact ⟨v, fy, g, U, _, hle, hs, hv, hk⟩
theorem D7 : Ff K 136 54 := by
 intro r gf first cap U R qq h g w vs hs hG ha
 have hl := ha.length
 refine callsIn_of_wp_marks Tryz.func54 TY trivial ?_
 have zU := xC [r, .func (.func gf) first cap] vs (Tryz.f54.ntmps - vs.toArray.size) ha
 have hnt : Tryz.f54.ntmps = 10 := by kernel_rfl
 have dG : (vs.toArray ++ Array.replicate (Tryz.f54.ntmps - vs.toArray.size) undef).size = 10 := by rw [hnt]; simp at hl ⊢; omega
 generalize vs.toArray ++ Array.replicate (Tryz.f54.ntmps - vs.toArray.size) undef = tm0 at zU dG
 have c0 : bz K 10 .bare (.region 0 JP false) (Qx.q ⟨fun ρ ae => ∃ a b c, U.cQ a /\ (U.new a (.box [.a7])).cQ b /\ ((U.new a (.box [.a7])).new b (.box [.int .i64 0])).cQ c /\
  ρ = (((Env.gM [r, .func (.func gf) first cap]).put 4 (.box a 0)).put 5 (.box b 0)).put 6 (.box c 0) /\ ae = (((U.new a (.box [.a7])).new b (.box [.int .i64 0])).new c (.box [.bool false])), fun _ _ _ => False, fun _ _ => False, fun _ _ => False⟩)
  (Env.gM [r, .func (.func gf) first cap]) U := by
  refine EZ (by kernel_rfl) ?_
  refine Eq.mp (show (∀ a, U.cQ a -> ∀ b, (U.new a (.box [.a7])).cQ b -> ∀ c, ((U.new a (.box [.a7])).new b (.box [.int .i64 0])).cQ c ->
   (fun (ρ : Env) (ae : St) => ∃ a b c, U.cQ a /\ (U.new a (.box [.a7])).cQ b /\ ((U.new a (.box [.a7])).new b (.box [.int .i64 0])).cQ c /\
   ρ = (((Env.gM [r, .func (.func gf) first cap]).put 4 (.box a 0)).put 5 (.box b 0)).put 6 (.box c 0) /\ ae = (((U.new a (.box [.a7])).new b (.box [.int .i64 0])).new c (.box [.bool false])))
    ((((Env.gM [r, .func (.func gf) first cap]).put 4 (.box a 0)).put 5 (.box b 0)).put 6 (.box c 0)) (((U.new a (.box [.a7])).new b (.box [.int .i64 0])).new c (.box [.bool false]))) = _ by kernel_rfl) ?_
  exact fun a ha b hb c hc => ⟨a, b, c, ha, hb, hc, rfl, rfl⟩
 refine wpIn_seq (wpIn_mono (c0 g w { tmps := tm0, defers := [] } none hs hG zU dG trivial) ?_)
 rintro e a1 w1 ⟨n1, g1, bJ, ρ1, ms, d1, m1, l1, s1, r1, q1⟩
 have vj : ms = [] := m1.none rfl
 subst vj
 simp only [gP, jA] at d1
 cases e <;> simp only [CC, Qx.q] at q1
 case panic => obtain ⟨_, _, _, _, hf⟩ := q1; exact hf.elim
 obtain ⟨a, b, c, fa, fb, fc, rfl, rfl⟩ := q1
 have PE := hG.mono l1
 refine wpIn_seq (wpIn_region ?_)
 rw [Yi]
 simp only [wpOpsIn, RS, RT, Region.wanted, if_true]
 have h4 := r1 4; have h5 := r1 5; have h6 := r1 6; have h1 := r1 1
 simp only [Env.put, Env.gM] at h4 h5 h6 h1
 have h4 : ay g1 (.box a 0) (a1.tmps.getD 4 undef) := h4
 have h5 : ay g1 (.box b 0) (a1.tmps.getD 5 undef) := h5
 have h6 : ay g1 (.box c 0) (a1.tmps.getD 6 undef) := h6
 refine ⟨fun _ _ => trivial, ?_⟩
 let fv : Value := .func (.func 98) #[] #[a1.tmps.getD 4 undef, a1.tmps.getD 5 undef, a1.tmps.getD 6 undef]
 have hmk : (Oper.semAt Fence.wide.round a1.eval ⟨some 7, .makeFunc (.func 98) #[] #[.tmp 4, .tmp 5, .tmp 6], 1, (pd.getD 0 default).pos, #[], none⟩).run K.P w1 = .ok (.value fv) w1 := by
  simp [Oper.semAt, execOp, fv, Act.eval, Fence.wide, Instr.makeFunc, Result.andThen]
 rw [hmk, Oper.uponIn_value]
 have e7 : (a1.put (some 7) fv).eval (.tmp 7) = fv := by
  show (a1.tmps.setIfInBounds 7 fv).getD 7 undef = fv
  simp [n1]
 refine ⟨fun _ _ => trivial, ?_⟩
 have NM : (Oper.semAt Fence.wide.round (a1.put (some 7) fv).eval ⟨none, .defer { callee := .value (.tmp 7), args := #[], argTypes := #[] }, 0, (pd.getD 1 default).pos, #[⟨0, .data⟩], none⟩).run K.P w1
  = .ok (.defer { target := .fn (.func 98) #[a1.tmps.getD 4 undef, a1.tmps.getD 5 undef, a1.tmps.getD 6 undef], args := #[] }) w1 := by
  simp [Oper.semAt, execOp, Go.resolve, e7, Fence.wide, Deferred.ofValue, Result.andThen]; simp [fv]
 rw [NM, Oper.uponIn_defer]
 show (Code.seq (.region 2 gn false) .ret).wpIn _ _ _ _ _ _
 let dd : Deferred := { target := .fn (.func 98) #[a1.tmps.getD 4 undef, a1.tmps.getD 5 undef, a1.tmps.getD 6 undef], args := #[] }
 let a2 : Act := { tmps := a1.tmps.setIfInBounds 7 fv, defers := dd :: a1.defers }
 show (Code.seq (.region 2 gn false) .ret).wpIn Fence.wide 0 K.P _ a2 w1
 let pk : Env := ((((Env.gM [r, .func (.func gf) first cap]).put 4 (.box a 0)).put 5 (.box b 0)).put 6 (.box c 0)).put 7 .any
 have r2 : fg g1 pk a2.tmps := r1.put (by rw [n1]; decide) (by simp only [ay])
 let cE : St := ((U.new a (.box [.a7])).new b (.box [.int .i64 0])).new c (.box [.bool false])
 have ab : a ≠ b := fun e => by subst e; simp [St.cQ, St.new] at fb
 have ac : a ≠ c := fun e => by
  subst e
  have := fc.1
  simp only [St.new, if_true] at this
  split at this <;> cases this
 have bc : b ≠ c := fun e => by subst e; simp [St.cQ, St.new] at fc
 have n2 : a2.tmps.size = 10 := by show (a1.tmps.setIfInBounds 7 fv).size = 10; simp [n1]
 have d2 : a2.defers = [dd] := by show dd :: a1.defers = _; rw [d1]
 have YA : a2.tmps.getD 4 undef = a1.tmps.getD 4 undef := by show (a1.tmps.setIfInBounds 7 fv).getD 4 undef = _; simp
 have YB : a2.tmps.getD 5 undef = a1.tmps.getD 5 undef := by show (a1.tmps.setIfInBounds 7 fv).getD 5 undef = _; simp
 have YC : a2.tmps.getD 6 undef = a1.tmps.getD 6 undef := by show (a1.tmps.setIfInBounds 7 fv).getD 6 undef = _; simp
 have deferred : ∀ {a3 : Act} {g3 : Gh} {cW : St} {w3 : World} {x : AV} {v : Value} {u u' : FrameMode} {Rn : St -> Prop}, Gh.Le g1 g3 -> a3.defers = [dd] -> aY g3 cW w3 -> ay g3 x v -> ((u = .returning /\ v = .nilIface /\ u' = .returning) \/ (u = .panicking [{ v, recovered := false }] /\ u' = .panicking [{ v, recovered := true }])) ->
  Gb (.box a 0) (.box b 0) (.box c 0) x Rn cW -> (∀ g4 dV w4, Gh.Le g3 g4 -> aY g4 dV w4 -> Rn dV -> LeavesInM Fence.wide 0 K.P Tryz.f54 a3.tmps (l9 g R) [] (settle u') w4) ->
  LeavesInM Fence.wide 0 K.P Tryz.f54 a3.tmps (l9 g R) a3.defers u w3 := by
  intro a3 g3 cW w3 x v u u' Rn l3 d3 s3 hx hu hr hk
  rw [d3]
  simp only [LeavesInM]
  have Xv : aD g3 [.box a 0, .box b 0, .box c 0] [a1.tmps.getD 4 undef, a1.tmps.getD 5 undef, a1.tmps.getD 6 undef] := by
   simp only [aD]
   exact ⟨_, _, rfl, h4.mono l3, _, _, rfl, h5.mono l3, _, _, rfl, h6.mono l3, rfl⟩
  refine ⟨by rcases hu with ⟨rfl, _⟩ | ⟨rfl, _⟩ <;> simp, .inr ⟨fun hd => by simp [Fence.wide] at hd, .func 98, _, 98, _, rfl, NX _ _, fun _ _ => trivial, ?_⟩⟩
  have := R6 (C := K) (f := 98) (fn := Tryz.f98) (id := 0) (d := 6) (vs := [a1.tmps.getD 4 undef, a1.tmps.getD 5 undef, a1.tmps.getD 6 undef]) (args := [.box a 0, .box b 0, .box c 0]) (hf := Tryz.func98) (hb := H4) (hres := by kernel_rfl) (hop := XZ) (hd := rfl) (hdn := by decide +kernel) (hg := rfl)
   (hlen := Nat.le_of_ble_eq_true (n := 3) (m := Tryz.f98.ntmps) (by kernel_rfl)) s3 (PE.mono l3) Xv hx hu Rn (VI hr)
  refine CallsDIn.mono this ?_
  rintro e u2 w4 ⟨v', rfl, rfl, g4, dV, l4, s4, hn⟩
  exact hk g4 dV w4 l4 s4 hn
 refine wpIn_seq (wpIn_region ?_)
 rw [Yj]
 simp only [wpOpsIn, RU, RV, RW, RX, RY, Region.wanted, if_true]
 refine ni (fr := none) (C := K) (nt := 10) (g := g1) (U := cE) (ρ := pk) (mu := false) (ds := []) (K := fun x s => x = .func (.func gf) first cap /\ s = cE) (Kp := fun _ _ => False) (by rfl) s1 PE r2 n2 ?_ ?_ (fun _ _ _ _ _ _ _ _ hf => hf.elim)
 · exact ⟨rfl, rfl⟩
 rintro g2 ae w2 x v l2 s2 hx ⟨rfl, rfl⟩
 have r3 : fg g2 (pk.put 8 (.func (.func gf) first cap)) (a2.put (some 8) v).tmps := (r2.mono l2).put (by rw [n2]; decide) hx
 have n3 : (a2.put (some 8) v).tmps.size = 10 := by rw [(lJ _ _ _).2]; exact n2
 refine ni (fr := none) (C := K) (nt := 10) (g := g2) (U := cE) (ρ := pk.put 8 (.func (.func gf) first cap)) (mu := false) (ds := []) (K := fun x s => D6 136 a b c R (.ret x) s) (Kp := fun x s => D6 136 a b c R (.panic x) s) (by rfl) s2 (PE.mono l2) r3 n3 ?_ ?_ ?_
 · show ((fY K.P (.func (.func gf) first cap) []).wp K cE _ _)
   simp only [fY, qq, if_true, iL, jU]
   refine (h a b c fa fb fc).mono fun res ae hres => ?_
   cases res <;> exact hres
 · rintro g3 cW w3 x v3 l3 s3 Vd ⟨P1, ⟨xa, ba⟩, ⟨xb, bb⟩, ⟨xc, bcx⟩, hR⟩
   have hcv : ax x = [x] := by cases x <;> first | rfl | cases P1
   have yJ : x.cS = true := by cases x <;> first | rfl | cases P1
   have r4 : fg g3 ((pk.put 8 (.func (.func gf) first cap)).put 9 x) ((a2.put (some 8) v).put (some 9) v3).tmps := (r3.mono l3).put (by rw [n3]; decide) Vd
   have n4 : ((a2.put (some 8) v).put (some 9) v3).tmps.size = 10 := by rw [(lJ _ _ _).2]; exact n3
   have Uk := PE.mono (l2.trans l3)
   refine ni (fr := none) (C := K) (nt := 10) (g := g3) (U := cW) (ρ := (pk.put 8 (.func (.func gf) first cap)).put 9 x) (mu := false) (ds := []) (K := fun y s => s = cW.bT a [x]) (Kp := fun _ _ => False) (by rfl) s3 Uk r4 n4 ?_ ?_ (fun _ _ _ _ _ _ _ _ hf => hf.elim)
   · rw [<- qJ]
     show (aM (lh K.P 87) (.box a 0) x cW).wp K cW _ _
     rw [aba, j0 ba]
     simp only [wp_cond, jr, hcv]
     exact ⟨⟨yJ, rfl, by simp⟩, rfl⟩
   rintro g4 _ w4 _ _ l4 s4 _ rfl
   refine ni (fr := none) (C := K) (nt := 10) (g := g4) (U := cW.bT a [x]) (ρ := (pk.put 8 (.func (.func gf) first cap)).put 9 x) (mu := false) (ds := []) (K := fun y s => s = (cW.bT a [x]).bT b [.int .i64 0]) (Kp := fun _ _ => False) (by rfl) s4 (Uk.mono l4) (r4.mono l4) n4 ?_ ?_ (fun _ _ _ _ _ _ _ _ hf => hf.elim)
   · rw [<- qJ]
     show (aM (lh K.P 3) (.box b 0) (.int .i64 0) (cW.bT a [x])).wp K _ _ _
     have : (cW.bT a [x]).box b = some [xb] := by simp only [St.bT]; rw [oB, if_neg (Ne.symm ab)]; exact bb
     rw [vT3, j0 this]
     simp only [wp_cond, jr]
     exact ⟨by simp, rfl⟩
   rintro g5 _ w5 _ _ l5 s5 _ rfl
   refine ni (fr := none) (C := K) (nt := 10) (g := g5) (U := (cW.bT a [x]).bT b [.int .i64 0]) (ρ := (pk.put 8 (.func (.func gf) first cap)).put 9 x) (mu := false) (ds := []) (K := fun y s => s = ((cW.bT a [x]).bT b [.int .i64 0]).bT c [.bool true]) (Kp := fun _ _ => False) (by rfl) s5 (Uk.mono (l4.trans l5)) (r4.mono (l4.trans l5)) n4 ?_ ?_ (fun _ _ _ _ _ _ _ _ hf => hf.elim)
   · rw [<- qJ]
     show (aM (lh K.P 4) (.box c 0) (.bool true) ((cW.bT a [x]).bT b [.int .i64 0])).wp K _ _ _
     have : ((cW.bT a [x]).bT b [.int .i64 0]).box c = some [xc] := by simp only [St.bT]; rw [oB, if_neg (Ne.symm bc), oB, if_neg (Ne.symm ac)]; exact bcx
     rw [vT4, j0 this]
     simp only [wp_cond, jr]
     exact ⟨by simp, rfl⟩
   rintro g6 _ w6 _ _ l6 s6 _ rfl
   show Code.wpIn Fence.wide 0 K.P .ret _ _ _
   refine wpIn_ret ?_
   have Zt := l2.trans (l3.trans (l4.trans (l5.trans l6)))
   refine deferred (a3 := (a2.put (some 8) v).put (some 9) v3) (x := .cN) (v := .nilIface) (u := .returning) (u' := .returning) (Rn := fun s => s = ((cW.bT a [x]).bT b [.int .i64 0]).bT c [.bool true]) Zt d2 s6 (by simp only [ay]) (.inl ⟨rfl, rfl, rfl⟩) (R4 rfl) ?_
   rintro g7 nM w7 l7 s7 rfl
   exact Qg (l1.trans (Zt.trans l7)) s7 (r4.mono ((l4.trans (l5.trans l6)).trans l7)) rfl rfl rfl (by simp [St.bT, ac, ab]) (by simp [St.bT, bc]) (by simp [St.bT]) hR
 · rintro g3 cW w3 x v3 l3 s3 Vd ⟨at_, rfl, ⟨xa, ka⟩, ⟨xb, kb⟩, ⟨xc, kc⟩, hR⟩
   show LeavesInM Fence.wide 0 K.P Tryz.f54 (a2.put (some 8) v).tmps (l9 g R) (a2.put (some 8) v).defers _ w3
   refine deferred (a3 := a2.put (some 8) v) (u := .panicking [{ v := v3, recovered := false }]) (u' := .panicking [{ v := v3, recovered := true }]) (Rn := fun s => ∃ q, cW.cQ q /\ s = ((((cW.new q (.box [.int .i64 at_])).bT a [.a7]).bT b [.int .i64 at_]).bT c [.bool false])) (l2.trans l3) d2 s3 Vd (.inr ⟨rfl, rfl⟩) (JU ka kb kc fun q hq => ⟨q, hq, rfl⟩) ?_
   rintro g4 dV w4 l4 s4 ⟨q, hq, rfl⟩
   exact Qg (l1.trans ((l2.trans l3).trans l4)) s4 ((r3.mono l3).mono l4) rfl rfl rfl (by simp [St.bT, ac, ab]) (by simp [St.bT, bc]) (by simp [St.bT]) (hR q hq)
end Go.Rip
namespace Go.Rip
open Go.Proofs
abbrev di : An := .rg [] [] none
abbrev aO (a b : An) : An := .sq none a b
abbrev ah (b : An) : An := .sq none (.rg [] [] none) b
abbrev aE : BT := BT.mk false false false none false
abbrev aK : Option (Bool × Nat) := some (false, 1)
theorem br {f : FuncId} {args : List AV} {R : cB -> St -> Prop} {U : St} {P : Prop} (fn : Func) (an : An) (h : P) (h1 : K.P.funcs[f]? = some fn := by kernel_rfl) (h2 : okF fn an args.length = true := by kernel_rfl) (h3 : P = Gx K fn an args R U := by kernel_rfl) : af K f args U R :=
 af.RQ B9 an h1 h2 (Eq.mp h3 h)
end Go.Rip
