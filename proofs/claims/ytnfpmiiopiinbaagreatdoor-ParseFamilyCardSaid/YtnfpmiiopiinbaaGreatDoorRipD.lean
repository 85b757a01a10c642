/- Lemmas for the proof: no conditions. -/
import Derived.Test.YtnfpmiiopiinbaaGreatDoorRipZz
import Derived.KernelRfl
import Derived.Lib.LaidTab
import Derived.Lib.ItoaNum
import Derived.Test.YtnfpmiiopiinbaaGreatDoorProg
import Derived.Test.YtnfpmiiopiinbaaGreatDoorRipC
set_option linter.unusedVariables false
set_option linter.unusedSimpArgs false
set_option linter.loopingSimpArgs false
namespace Go.Rip
def w_ : List UInt8 := []
def zE : List UInt8 := [10]
def oW : List UInt8 := [33]
def oX : List UInt8 := [40]
def pL : List UInt8 := [41]
def wH : List UInt8 := [42]
def wI : List UInt8 := [43]
def wJ : List UInt8 := [44]
def wK : List UInt8 := [45]
def iL : List UInt8 := [45, 62]
def zF : List UInt8 := [46]
def wL : List UInt8 := [58]
def cP : List UInt8 := [58, 61]
def rC : List UInt8 := [59]
def wM : List UInt8 := [60]
def wN : List UInt8 := [61]
def dc : List UInt8 := [61, 60, 43, 45, 42, 33, 40, 41, 123, 125, 44, 59, 58, 46]
def wO : List UInt8 := [123]
def zG : List UInt8 := [125]
def zH : List UInt8 := [97, 110, 100]
def Eb : List UInt8 := [97, 115]
def MN : List UInt8 := [98, 111, 111, 108]
def MO : List UInt8 := [99, 101, 108, 108]
def oJ : List UInt8 := [99, 104, 111, 111, 115, 101]
def Q8 : List UInt8 := [99, 111, 109]
def uj : List UInt8 := [100, 101, 102]
def AE : List UInt8 := [100, 111]
def kL : List UInt8 := [101, 108, 115, 101]
def nq : List UInt8 := [101, 120, 112, 111, 114, 116]
def gl : List UInt8 := [102, 97, 108, 115, 101]
def Ec : List UInt8 := [102, 110]
def B6 : List UInt8 := [103, 101, 116]
def kM : List UInt8 := [104, 97, 110, 103]
def yk : List UInt8 := [105, 102]
def nr : List UInt8 := [105, 109, 112, 111, 114, 116]
def qN : List UInt8 := [105, 110]
def Q9 : List UInt8 := [105, 110, 116]
def mP : List UInt8 := [106, 117, 109, 112]
def pW : List UInt8 := [108, 97, 98, 101, 108]
def wP : List UInt8 := [110, 101, 119]
def B7 : List UInt8 := [110, 111, 116]
def oK : List UInt8 := [110, 111, 116, 105, 99, 101]
def WI : List UInt8 := [111, 102]
def Ed : List UInt8 := [111, 114]
def B8 : List UInt8 := [112, 117, 116]
def jo : List UInt8 := [115, 107, 105, 112]
def s8 : List UInt8 := [116, 104, 101, 110]
def fR : List UInt8 := [116, 114, 117, 101]
def oL : List UInt8 := [119, 104, 105, 108, 101]
end Go.Rip
namespace Go.Rip
open Go.Proofs
def sk : List AV := (List.range 256).map fun c => .int .u8 (if c = 9 \/ c = 10 \/ c = 11 \/ c = 12 \/ c = 13 \/ c = 32 then 1 else 0)
def sQ : List AV := (List.range 20).map fun c => .int .u64 (10 ^ c : Nat)
noncomputable def K : cr := ⟨Tryz.prog, fun i => if i = 0 then .cj sk else if i = 7 then .cj sQ else .any, fun i => if i = 7 then some (Lib.pow10Tab.map fun z => Value.int .u64 z).toArray else none⟩
theorem Cb : K.P.follows .mixedOrders = true := by show Tryz.prog.follows .mixedOrders = true; kernel_rfl
end Go.Rip
set_option maxRecDepth 100000
namespace Go.Rip
open Go.Proofs Go.RowKit
noncomputable def vR : Code := match Tryz.f98.body with | some (.seq _ c) => c | _ => .skip
def MW : An := .bk (.sq none (.rg [] [] none) (.cd (.rg [] [] none) (.sq none (.rg [] [] none) (.cd (.sq none (.rg [] [] none) (.rg [] [] (some ⟨[(true, 0), (true, 1), (false, 2), (false, 3), (false, 4)], [⟨4096, 16, 0⟩, ⟨8192, 4096, 1⟩, ⟨0, 1, 0⟩, ⟨0, 8194, 7⟩, ⟨0, 4, 15⟩]⟩))) (.sq none (.rg [] [] none) (.rg [] [] none))))))
def F2 (a0 a1 a2 x : AV) (Rn : St -> Prop) (U : St) : Prop :=
 (ak .eql (BT.mk false true false none false) true x AV.cI).wp K U (fun v8 U =>
 al v8 (
  Rn U) (
  (sc (some (AV.agg [AV.int .i64 0])) x 136 true).wp K U (fun v9 U =>
  (aT v9 1).wp K U (fun v10 U =>
  (aT v9 0).wp K U (fun v11 U =>
  al v10 (
   (av.c7 [AV.int .i64 0]).wp K U (fun v4 U =>
   (aQ (some (true, 1)) v4 v11 U).wp K U (fun _ U =>
   (fun aE : St =>
   az K (ah (some 0) v4) (fun v12 =>
   az K (ao (some (false, 1)) v12 aE) (fun bD =>
   (aQ (some (false, 1)) a0 AV.a7 U).wp K U (fun _ U => cU ((cT v12 ++ []) ++ []) aE U /\
   (aQ (some (false, 1)) a1 bD U).wp K U (fun _ U => cU ((cT v12 ++ []) ++ []) aE U /\
   (aQ (some (false, 1)) a2 (AV.bool false) U).wp K U (fun _ U =>
   Rn U) (fun _ _ => False)) (fun _ _ => False)) (fun _ _ => False)))) U) (fun _ _ => False)) (fun _ _ => False)) (
   (qA x).wp K U (fun _ U =>
   Rn U) (fun _ _ => False))) (fun _ _ => False)) (fun _ _ => False)) (fun _ _ => False))) (fun _ _ => False)
theorem VM {a0 a1 a2 x : AV} {Rn : St -> Prop} {U : St} (h : F2 a0 a1 a2 x Rn U) : bp K 14 .bare vR (Pu Rn) ((Env.gG [a0, a1, a2]).put 6 x) U := by
 have h2 : lO K vR MW ⟨fun _ U => Rn U, fun _ _ _ => False, fun _ U => Rn U, fun _ _ => False⟩ ((Env.gG [a0, a1, a2]).put 6 x) U :=
  Eq.mp (show F2 a0 a1 a2 x Rn U = lO K vR MW ⟨fun _ U => Rn U, fun _ _ _ => False, fun _ U => Rn U, fun _ _ => False⟩ ((Env.gG [a0, a1, a2]).put 6 x) U by kernel_rfl) h
 refine (wb (nt := 14) Cb vR MW false .bare _ _ _ (by kernel_rfl) (fun h => by cases h) h2).mono fun e ρ U he => ?_
 cases e with
 | normal => exact he
 | ret => exact he
 | exit i => exact he.elim
 | panic x => exact he.elim
theorem St.cN.ne {U : St} {q b : Nat} {l : List AV} (h : U.cN q) (hb : U.box b = some l) : b ≠ q := fun e => by
 subst e
 obtain ⟨y, this, _⟩ := St.p5 hb
 rw [h.1] at this; cases this
@[simp] theorem ox (U : St) (b y : Nat) (l : List AV) : (U.set b (.box l)).box y = if y = b then some l else U.box y := by
 simp only [St.box, St.set]; by_cases h : y = b <;> simp [h]
@[simp] theorem zU (U : St) (b y : Nat) (l : List AV) : (U.new b (.box l)).box y = if y = b then some l else U.box y := by
 simp only [St.box, St.new]; by_cases h : y = b <;> simp [h]
theorem R3 {a0 a1 a2 : AV} {Rn : St -> Prop} {U : St} (h : Rn U) : F2 a0 a1 a2 .cI Rn U := by
 show ((true = true -> Rn U) /\ _)
 exact ⟨fun _ => h, fun h => by cases h⟩
theorem JI {a b c : Nat} {at_ : Int} {x y z : AV} {Rn : St -> Prop} {U : St} (ha : U.box a = some [x]) (hb : U.box b = some [y]) (hc : U.box c = some [z])
 (h : ∀ q, U.cN q -> Rn ((((U.new q (.box [.int .i64 at_])).bW a [.a7]).bW b [.int .i64 at_]).bW c [.bool false])) : F2 (.box a 0) (.box b 0) (.box c 0) (.iface 136 (.agg [.int .i64 at_])) Rn U := by
 have e1 : (ak .eql (BT.mk false true false none false) true (.iface 136 (.agg [.int .i64 at_])) AV.cI) = .val (.bool false) := rfl
 have e2 : (sc (some (AV.agg [AV.int .i64 0])) (.iface 136 (.agg [.int .i64 at_])) 136 true) = .val (.aO [.agg [.int .i64 at_], .bool true]) := rfl
 simp only [F2, e1, e2, ai, aU, bf, bK, List.drop_succ_cons, ej, dm, lP]
 intro q hq
 have qa := hq.ne ha
 have qb := hq.ne hb
 have qc := hq.ne hc
 have s1 : (U.new q (.box [AV.int .i64 0])).box q = some [AV.int .i64 0] := by simp
 simp only [NV.at]
 rw [jX s1]
 simp only [wp_cond, jq]
 refine ⟨by simp, ?_⟩
 simp only [aV, au]
 have e3 : (U.new q (.box [AV.int .i64 0])).set q (.box (aH [AV.int .i64 0] 0 (aA (.agg [.int .i64 at_])))) = U.new q (.box [.int .i64 at_]) := by
  simp only [St.set, St.new, St.mk.injEq, and_true]
  funext y
  split <;> rfl
 rw [e3]
 have s2 : (U.new q (.box [AV.int .i64 at_])).box q = some [AV.int .i64 at_] := by simp
 rw [qs s2]
 simp only [Nat.add_zero, ej, dm, au]
 have s3 : (U.new q (.box [AV.int .i64 at_])).box a = some [x] := by rw [zU, if_neg qa]; exact ha
 rw [jX s3]
 simp only [wp_cond, jq, cU, cT, ja, ng, forall_eq]
 refine ⟨by simp, by simp [St.set, Ne.symm qa], ?_⟩
 have s4 : ((U.new q (.box [AV.int .i64 at_])).set a (.box (aH [x] 0 (aA .a7)))).box b = some [y] \/ b = a := by
  by_cases e : b = a
  · exact .inr e
  · left; rw [ox, if_neg e, zU, if_neg qb]; exact hb
 have s4' : ∃ y', ((U.new q (.box [AV.int .i64 at_])).set a (.box (aH [x] 0 (aA .a7)))).box b = some [y'] := by
  rcases s4 with s4 | rfl
  · exact ⟨_, s4⟩
  · exact ⟨_, by rw [ox, if_pos rfl]; rfl⟩
 obtain ⟨y', s4⟩ := s4'
 rw [jX s4]
 simp only [wp_cond, jq]
 refine ⟨by simp, by simp [St.set, Ne.symm qa, Ne.symm qb], ?_⟩
 have s5' : ∃ z', (((U.new q (.box [AV.int .i64 at_])).set a (.box (aH [x] 0 (aA .a7)))).set b (.box (aH [y'] 0 (aA (.int .i64 at_))))).box c = some [z'] := by
  rw [ox]
  split
  · exact ⟨_, rfl⟩
  · rw [ox]
    split
    · exact ⟨_, rfl⟩
    · rw [zU, if_neg qc]; exact ⟨_, hc⟩
 obtain ⟨z', s5⟩ := s5'
 rw [jX s5]
 simp only [wp_cond, jq]
 exact ⟨by simp, h q hq⟩
end Go.Rip
set_option maxRecDepth 100000
namespace Go.Rip
open Go.Proofs Go.RowKit
noncomputable def JD : Array Oper := match Tryz.f54.body with | some (.seq (.region _ o _) _) => o | _ => #[]
noncomputable def o6 : Array Oper := match Tryz.f54.body with | some (.seq _ (.seq (.region _ o _) _)) => o | _ => #[]
noncomputable def gh : Array Oper := match Tryz.f54.body with | some (.seq _ (.seq _ (.seq (.region _ o _) _))) => o | _ => #[]
theorem T1 : Tryz.f54.body = some (.seq (.region 0 JD false) (.seq (.region 1 o6 false) (.seq (.region 2 gh false) .ret))) := by kernel_rfl
theorem RR : o6[0]? = some ⟨some 7, .makeFunc (.func 98) #[] #[.tmp 4, .tmp 5, .tmp 6], 1, (o6.getD 0 default).pos, #[], none⟩ := by kernel_rfl
theorem RS : o6[1]? = some ⟨none, .defer { callee := .value (.tmp 7), args := #[], argTypes := #[] }, 0, (o6.getD 1 default).pos, #[⟨0, .data⟩], none⟩ := by kernel_rfl
theorem RT : gh[0]? = some ⟨some 8, .move (.tmp 1), 90, (gh.getD 0 default).pos, (gh.getD 0 default).after, none⟩ := by kernel_rfl
theorem RU : gh[1]? = some ⟨some 9, .call { callee := .value (.tmp 8), args := #[], argTypes := #[] }, 87, (gh.getD 1 default).pos, (gh.getD 1 default).after, none⟩ := by kernel_rfl
theorem RV : gh[2]? = some ⟨none, .store 87 (.tmp 4) (.tmp 9), 0, (gh.getD 2 default).pos, (gh.getD 2 default).after, none⟩ := by kernel_rfl
theorem RW : gh[3]? = some ⟨none, .store 3 (.tmp 5) (.const (.int .i64 0)), 0, (gh.getD 3 default).pos, (gh.getD 3 default).after, none⟩ := by kernel_rfl
theorem RX : gh[4]? = some ⟨none, .store 4 (.tmp 6) (.const (.bool true)), 0, (gh.getD 4 default).pos, (gh.getD 4 default).after, none⟩ := by kernel_rfl
theorem Ys : List.range gh.size = [0, 1, 2, 3, 4] := by kernel_rfl
theorem abf : kY K.P 87 = some (false, 1) := by kernel_rfl
theorem vT3 : kY K.P 3 = some (false, 1) := by kernel_rfl
theorem vT4 : kY K.P 4 = some (false, 1) := by kernel_rfl
theorem Yr : List.range o6.size = [0, 1] := by kernel_rfl
theorem EW {nt id : Nat} {ops : Array Oper} {Q : Qx} {ρ : Env} {U : St} (cA : km nt ops = true) (h : rV K [] [] ops ops.toList ρ U Q.n Q.p) : bp K nt .bare (.region id ops false) Q.q ρ U :=
 wb (nt := nt) Cb (.region id ops false) (.rg [] [] none) false .bare Q ρ U cA (fun h => by cases h) h
noncomputable def VG : Oper := match Tryz.f98.body with | some (.seq (.region _ o _) _) => o.getD 0 default | _ => default
theorem HR : Tryz.f98.body = some (.seq (.region 0 #[⟨some 6, .call { callee := .builtin .recover, args := #[], argTypes := #[] }, 20, VG.pos, #[], none⟩] false) vR) := by kernel_rfl
theorem Vw : (Tryz.f98.name == "runtime.NumGoroutine") = false := by kernel_rfl
theorem NL (captured : Array Value) (w : World) : (invoke (.fn (.func 98) captured) #[]).run K.P w = .ok (.enter 98 captured) w := by
 have hfn : K.P.funcs[98]? = some Tryz.f98 := Tryz.func98
 have h1 : Tryz.f98.name ≠ "runtime.NumGoroutine" := by simpa using Vw
 simp [invoke, callFunc, hfn, h1, HR, Result.andThen, run_program]
theorem X8 (ev : Operand -> Value) (w : World) : (execOp ev ⟨some 6, .call { callee := .builtin .recover, args := #[], argTypes := #[] }, 20, VG.pos, #[], none⟩).run K.P w = .ok .recover w := by
 simp [execOp, Go.resolve, invoke, builtin, Result.andThen]
theorem Qb {g0 g : Gh} {U : St} {w : World} {ρ : Env} {tmps : Array Value} {a b c : Nat} {x y z : AV} {R : cB -> St -> Prop} (hle : Gh.Le g0 g) (hs : aZ g U w) (hr : fj g ρ tmps)
 (h4 : ρ.get 4 = .box a 0) (h5 : ρ.get 5 = .box b 0) (h6 : ρ.get 6 = .box c 0) (ha : U.box a = some [x]) (hb : U.box b = some [y]) (hc : U.box c = some [z]) (hR : R (.ret (.aO [x, y, z])) U) :
 LeavesInM Fence.wide 0 K.P Tryz.f54 tmps (lV g0 R) [] .returning w := by
 have hk : rY K.P ρ U Tryz.f54.results.toList fun vs => R (.ret (sa vs)) U := by
  refine sR _ _ ?_
  refine Eq.mp (show (bF (some (false, 1)) (ρ.get 4) U fun x => bF (some (false, 1)) (ρ.get 5) U fun y => bF (some (false, 1)) (ρ.get 6) U fun z => R (.ret (.aO [x, y, z])) U) = _ by kernel_rfl) ?_
  rw [h4, h5, h6]
  simp only [bF, qs ha, qs hb, qs hc, ej, dm]
  exact hR
 obtain ⟨v, xs, fy, hv, hk⟩ := xx (a := { tmps := tmps, defers := [] }) (fn := Tryz.f54) hs hr hk
 exact ⟨v, fy, g, U, _, hle, hs, hv, hk⟩
theorem D4 : E9 K 136 54 := by
 intro r gf first cap U R qg h g w vs hs hG ha
 have hl := ha.length
 refine callsIn_of_wp_marks Tryz.func54 T1 trivial ?_
 have Ac := xG [r, .func (.func gf) first cap] vs (Tryz.f54.ntmps - vs.toArray.size) ha
 have hnt : Tryz.f54.ntmps = 10 := by kernel_rfl
 have dE : (vs.toArray ++ Array.replicate (Tryz.f54.ntmps - vs.toArray.size) undef).size = 10 := by rw [hnt]; simp at hl ⊢; omega
 generalize vs.toArray ++ Array.replicate (Tryz.f54.ntmps - vs.toArray.size) undef = tm0 at Ac dE
 have c0 : bp K 10 .bare (.region 0 JD false) (Qx.q ⟨fun ρ ae => ∃ a b c, U.cN a /\ (U.new a (.box [.a7])).cN b /\ ((U.new a (.box [.a7])).new b (.box [.int .i64 0])).cN c /\
  ρ = (((Env.gG [r, .func (.func gf) first cap]).put 4 (.box a 0)).put 5 (.box b 0)).put 6 (.box c 0) /\ ae = (((U.new a (.box [.a7])).new b (.box [.int .i64 0])).new c (.box [.bool false])), fun _ _ _ => False, fun _ _ => False, fun _ _ => False⟩)
  (Env.gG [r, .func (.func gf) first cap]) U := by
  refine EW (by kernel_rfl) ?_
  refine Eq.mp (show (∀ a, U.cN a -> ∀ b, (U.new a (.box [.a7])).cN b -> ∀ c, ((U.new a (.box [.a7])).new b (.box [.int .i64 0])).cN c ->
   (fun (ρ : Env) (ae : St) => ∃ a b c, U.cN a /\ (U.new a (.box [.a7])).cN b /\ ((U.new a (.box [.a7])).new b (.box [.int .i64 0])).cN c /\
   ρ = (((Env.gG [r, .func (.func gf) first cap]).put 4 (.box a 0)).put 5 (.box b 0)).put 6 (.box c 0) /\ ae = (((U.new a (.box [.a7])).new b (.box [.int .i64 0])).new c (.box [.bool false])))
    ((((Env.gG [r, .func (.func gf) first cap]).put 4 (.box a 0)).put 5 (.box b 0)).put 6 (.box c 0)) (((U.new a (.box [.a7])).new b (.box [.int .i64 0])).new c (.box [.bool false]))) = _ by kernel_rfl) ?_
  exact fun a ha b hb c hc => ⟨a, b, c, ha, hb, hc, rfl, rfl⟩
 refine wpIn_seq (wpIn_mono (c0 g w { tmps := tm0, defers := [] } none hs hG Ac dE trivial) ?_)
 rintro e a1 w1 ⟨n1, g1, bT, ρ1, ms, d1, m1, l1, s1, r1, q1⟩
 have vj : ms = [] := m1.none rfl
 subst vj
 simp only [gJ, jc] at d1
 cases e <;> simp only [CB, Qx.q] at q1
 case panic => obtain ⟨_, _, _, _, hf⟩ := q1; exact hf.elim
 obtain ⟨a, b, c, fa, fb, fc, rfl, rfl⟩ := q1
 have Py := hG.mono l1
 refine wpIn_seq (wpIn_region ?_)
 rw [Yr]
 simp only [wpOpsIn, RR, RS, Region.wanted, if_true]
 have h4 := r1 4; have h5 := r1 5; have h6 := r1 6; have h1 := r1 1
 simp only [Env.put, Env.gG] at h4 h5 h6 h1
 have h4 : aw g1 (.box a 0) (a1.tmps.getD 4 undef) := h4
 have h5 : aw g1 (.box b 0) (a1.tmps.getD 5 undef) := h5
 have h6 : aw g1 (.box c 0) (a1.tmps.getD 6 undef) := h6
 refine ⟨fun _ _ => trivial, ?_⟩
 let fv : Value := .func (.func 98) #[] #[a1.tmps.getD 4 undef, a1.tmps.getD 5 undef, a1.tmps.getD 6 undef]
 have hmk : (Oper.semAt Fence.wide.round a1.eval ⟨some 7, .makeFunc (.func 98) #[] #[.tmp 4, .tmp 5, .tmp 6], 1, (o6.getD 0 default).pos, #[], none⟩).run K.P w1 = .ok (.value fv) w1 := by
  simp [Oper.semAt, execOp, fv, Act.eval, Fence.wide, Instr.makeFunc, Result.andThen]
 rw [hmk, Oper.uponIn_value]
 have e7 : (a1.put (some 7) fv).eval (.tmp 7) = fv := by
  show (a1.tmps.setIfInBounds 7 fv).getD 7 undef = fv
  simp [n1]
 refine ⟨fun _ _ => trivial, ?_⟩
 have NA : (Oper.semAt Fence.wide.round (a1.put (some 7) fv).eval ⟨none, .defer { callee := .value (.tmp 7), args := #[], argTypes := #[] }, 0, (o6.getD 1 default).pos, #[⟨0, .data⟩], none⟩).run K.P w1
  = .ok (.defer { target := .fn (.func 98) #[a1.tmps.getD 4 undef, a1.tmps.getD 5 undef, a1.tmps.getD 6 undef], args := #[] }) w1 := by
  simp [Oper.semAt, execOp, Go.resolve, e7, Fence.wide, Deferred.ofValue, Result.andThen]; simp [fv]
 rw [NA, Oper.uponIn_defer]
 show (Code.seq (.region 2 gh false) .ret).wpIn _ _ _ _ _ _
 let dd : Deferred := { target := .fn (.func 98) #[a1.tmps.getD 4 undef, a1.tmps.getD 5 undef, a1.tmps.getD 6 undef], args := #[] }
 let a2 : Act := { tmps := a1.tmps.setIfInBounds 7 fv, defers := dd :: a1.defers }
 show (Code.seq (.region 2 gh false) .ret).wpIn Fence.wide 0 K.P _ a2 w1
 let pa : Env := ((((Env.gG [r, .func (.func gf) first cap]).put 4 (.box a 0)).put 5 (.box b 0)).put 6 (.box c 0)).put 7 .any
 have r2 : fj g1 pa a2.tmps := r1.put (by rw [n1]; decide) (by simp only [aw])
 let c8 : St := ((U.new a (.box [.a7])).new b (.box [.int .i64 0])).new c (.box [.bool false])
 have ab : a ≠ b := fun e => by subst e; simp [St.cN, St.new] at fb
 have ac : a ≠ c := fun e => by
  subst e
  have := fc.1
  simp only [St.new, if_true] at this
  split at this <;> cases this
 have bc : b ≠ c := fun e => by subst e; simp [St.cN, St.new] at fc
 have n2 : a2.tmps.size = 10 := by show (a1.tmps.setIfInBounds 7 fv).size = 10; simp [n1]
 have d2 : a2.defers = [dd] := by show dd :: a1.defers = _; rw [d1]
 have YI : a2.tmps.getD 4 undef = a1.tmps.getD 4 undef := by show (a1.tmps.setIfInBounds 7 fv).getD 4 undef = _; simp
 have YJ : a2.tmps.getD 5 undef = a1.tmps.getD 5 undef := by show (a1.tmps.setIfInBounds 7 fv).getD 5 undef = _; simp
 have YK : a2.tmps.getD 6 undef = a1.tmps.getD 6 undef := by show (a1.tmps.setIfInBounds 7 fv).getD 6 undef = _; simp
 have deferred : ∀ {a3 : Act} {g3 : Gh} {dq : St} {w3 : World} {x : AV} {v : Value} {u u' : FrameMode} {Rn : St -> Prop}, Gh.Le g1 g3 -> a3.defers = [dd] -> aZ g3 dq w3 -> aw g3 x v -> ((u = .returning /\ v = .nilIface /\ u' = .returning) \/ (u = .panicking [{ v, recovered := false }] /\ u' = .panicking [{ v, recovered := true }])) ->
  F2 (.box a 0) (.box b 0) (.box c 0) x Rn dq -> (∀ g4 eh w4, Gh.Le g3 g4 -> aZ g4 eh w4 -> Rn eh -> LeavesInM Fence.wide 0 K.P Tryz.f54 a3.tmps (lV g R) [] (settle u') w4) ->
  LeavesInM Fence.wide 0 K.P Tryz.f54 a3.tmps (lV g R) a3.defers u w3 := by
  intro a3 g3 dq w3 x v u u' Rn l3 d3 s3 hx hu hr hk
  rw [d3]
  simp only [LeavesInM]
  have XF : aD g3 [.box a 0, .box b 0, .box c 0] [a1.tmps.getD 4 undef, a1.tmps.getD 5 undef, a1.tmps.getD 6 undef] := by
   simp only [aD]
   exact ⟨_, _, rfl, h4.mono l3, _, _, rfl, h5.mono l3, _, _, rfl, h6.mono l3, rfl⟩
  refine ⟨by rcases hu with ⟨rfl, _⟩ | ⟨rfl, _⟩ <;> simp, .inr ⟨fun hd => by simp [Fence.wide] at hd, .func 98, _, 98, _, rfl, NL _ _, fun _ _ => trivial, ?_⟩⟩
  have := R5 (C := K) (f := 98) (fn := Tryz.f98) (id := 0) (d := 6) (vs := [a1.tmps.getD 4 undef, a1.tmps.getD 5 undef, a1.tmps.getD 6 undef]) (args := [.box a 0, .box b 0, .box c 0]) (hf := Tryz.func98) (hb := HR) (hres := by kernel_rfl) (hop := X8) (hd := rfl) (hdn := by decide +kernel) (hg := rfl)
   (hlen := Nat.le_of_ble_eq_true (n := 3) (m := Tryz.f98.ntmps) (by kernel_rfl)) s3 (Py.mono l3) XF hx hu Rn (VM hr)
  refine CallsDIn.mono this ?_
  rintro e u2 w4 ⟨v', rfl, rfl, g4, eh, l4, s4, hn⟩
  exact hk g4 eh w4 l4 s4 hn
 refine wpIn_seq (wpIn_region ?_)
 rw [Ys]
 simp only [wpOpsIn, RT, RU, RV, RW, RX, Region.wanted, if_true]
 refine nf (fr := none) (C := K) (nt := 10) (g := g1) (U := c8) (ρ := pa) (mu := false) (ds := []) (K := fun x s => x = .func (.func gf) first cap /\ s = c8) (Kp := fun _ _ => False) (by rfl) s1 Py r2 n2 ?_ ?_ (fun _ _ _ _ _ _ _ _ hf => hf.elim)
 · exact ⟨rfl, rfl⟩
 rintro g2 ae w2 x v l2 s2 hx ⟨rfl, rfl⟩
 have r3 : fj g2 (pa.put 8 (.func (.func gf) first cap)) (a2.put (some 8) v).tmps := (r2.mono l2).put (by rw [n2]; decide) hx
 have n3 : (a2.put (some 8) v).tmps.size = 10 := by rw [(lC _ _ _).2]; exact n2
 refine nf (fr := none) (C := K) (nt := 10) (g := g2) (U := c8) (ρ := pa.put 8 (.func (.func gf) first cap)) (mu := false) (ds := []) (K := fun x s => D3 136 a b c R (.ret x) s) (Kp := fun x s => D3 136 a b c R (.panic x) s) (by rfl) s2 (Py.mono l2) r3 n3 ?_ ?_ ?_
 · show ((fM K.P (.func (.func gf) first cap) []).wp K c8 _ _)
   simp only [fM, qg, if_true, iM, ja]
   refine (h a b c fa fb fc).mono fun res ae hres => ?_
   cases res <;> exact hres
 · rintro g3 dq w3 x v3 l3 s3 Vf ⟨PW, ⟨xa, ba⟩, ⟨xb, bb⟩, ⟨xc, bcx⟩, hR⟩
   have hcv : aA x = [x] := by cases x <;> first | rfl | cases PW
   have yS : x.cS = true := by cases x <;> first | rfl | cases PW
   have r4 : fj g3 ((pa.put 8 (.func (.func gf) first cap)).put 9 x) ((a2.put (some 8) v).put (some 9) v3).tmps := (r3.mono l3).put (by rw [n3]; decide) Vf
   have n4 : ((a2.put (some 8) v).put (some 9) v3).tmps.size = 10 := by rw [(lC _ _ _).2]; exact n3
   have Un := Py.mono (l2.trans l3)
   refine nf (fr := none) (C := K) (nt := 10) (g := g3) (U := dq) (ρ := (pa.put 8 (.func (.func gf) first cap)).put 9 x) (mu := false) (ds := []) (K := fun y s => s = dq.bW a [x]) (Kp := fun _ _ => False) (by rfl) s3 Un r4 n4 ?_ ?_ (fun _ _ _ _ _ _ _ _ hf => hf.elim)
   · rw [<- qz]
     show (aQ (kY K.P 87) (.box a 0) x dq).wp K dq _ _
     rw [abf, jX ba]
     simp only [wp_cond, jq, hcv]
     exact ⟨⟨yS, rfl, by simp⟩, rfl⟩
   rintro g4 _ w4 _ _ l4 s4 _ rfl
   refine nf (fr := none) (C := K) (nt := 10) (g := g4) (U := dq.bW a [x]) (ρ := (pa.put 8 (.func (.func gf) first cap)).put 9 x) (mu := false) (ds := []) (K := fun y s => s = (dq.bW a [x]).bW b [.int .i64 0]) (Kp := fun _ _ => False) (by rfl) s4 (Un.mono l4) (r4.mono l4) n4 ?_ ?_ (fun _ _ _ _ _ _ _ _ hf => hf.elim)
   · rw [<- qz]
     show (aQ (kY K.P 3) (.box b 0) (.int .i64 0) (dq.bW a [x])).wp K _ _ _
     have : (dq.bW a [x]).box b = some [xb] := by simp only [St.bW]; rw [ox, if_neg (Ne.symm ab)]; exact bb
     rw [vT3, jX this]
     simp only [wp_cond, jq]
     exact ⟨by simp, rfl⟩
   rintro g5 _ w5 _ _ l5 s5 _ rfl
   refine nf (fr := none) (C := K) (nt := 10) (g := g5) (U := (dq.bW a [x]).bW b [.int .i64 0]) (ρ := (pa.put 8 (.func (.func gf) first cap)).put 9 x) (mu := false) (ds := []) (K := fun y s => s = ((dq.bW a [x]).bW b [.int .i64 0]).bW c [.bool true]) (Kp := fun _ _ => False) (by rfl) s5 (Un.mono (l4.trans l5)) (r4.mono (l4.trans l5)) n4 ?_ ?_ (fun _ _ _ _ _ _ _ _ hf => hf.elim)
   · rw [<- qz]
     show (aQ (kY K.P 4) (.box c 0) (.bool true) ((dq.bW a [x]).bW b [.int .i64 0])).wp K _ _ _
     have : ((dq.bW a [x]).bW b [.int .i64 0]).box c = some [xc] := by simp only [St.bW]; rw [ox, if_neg (Ne.symm bc), ox, if_neg (Ne.symm ac)]; exact bcx
     rw [vT4, jX this]
     simp only [wp_cond, jq]
     exact ⟨by simp, rfl⟩
   rintro g6 _ w6 _ _ l6 s6 _ rfl
   show Code.wpIn Fence.wide 0 K.P .ret _ _ _
   refine wpIn_ret ?_
   have ZE := l2.trans (l3.trans (l4.trans (l5.trans l6)))
   refine deferred (a3 := (a2.put (some 8) v).put (some 9) v3) (x := .cI) (v := .nilIface) (u := .returning) (u' := .returning) (Rn := fun s => s = ((dq.bW a [x]).bW b [.int .i64 0]).bW c [.bool true]) ZE d2 s6 (by simp only [aw]) (.inl ⟨rfl, rfl, rfl⟩) (R3 rfl) ?_
   rintro g7 nM w7 l7 s7 rfl
   exact Qb (l1.trans (ZE.trans l7)) s7 (r4.mono ((l4.trans (l5.trans l6)).trans l7)) rfl rfl rfl (by simp [St.bW, ac, ab]) (by simp [St.bW, bc]) (by simp [St.bW]) hR
 · rintro g3 dq w3 x v3 l3 s3 Vf ⟨at_, rfl, ⟨xa, ka⟩, ⟨xb, kb⟩, ⟨xc, kc⟩, hR⟩
   show LeavesInM Fence.wide 0 K.P Tryz.f54 (a2.put (some 8) v).tmps (lV g R) (a2.put (some 8) v).defers _ w3
   refine deferred (a3 := a2.put (some 8) v) (u := .panicking [{ v := v3, recovered := false }]) (u' := .panicking [{ v := v3, recovered := true }]) (Rn := fun s => ∃ q, dq.cN q /\ s = ((((dq.new q (.box [.int .i64 at_])).bW a [.a7]).bW b [.int .i64 at_]).bW c [.bool false])) (l2.trans l3) d2 s3 Vf (.inr ⟨rfl, rfl⟩) (JI ka kb kc fun q hq => ⟨q, hq, rfl⟩) ?_
   rintro g4 eh w4 l4 s4 ⟨q, hq, rfl⟩
   exact Qb (l1.trans ((l2.trans l3).trans l4)) s4 ((r3.mono l3).mono l4) rfl rfl rfl (by simp [St.bW, ac, ab]) (by simp [St.bW, bc]) (by simp [St.bW]) (hR q hq)
end Go.Rip
namespace Go.Rip
open Go.Proofs
abbrev dj : An := .rg [] [] none
abbrev aL (a b : An) : An := .sq none a b
abbrev ag (b : An) : An := .sq none (.rg [] [] none) b
abbrev aC : BT := BT.mk false false false none false
abbrev aK : Option (Bool × Nat) := some (false, 1)
theorem bh {f : FuncId} {args : List AV} {R : cB -> St -> Prop} {U : St} {P : Prop} (fn : Func) (an : An) (h : P) (h1 : K.P.funcs[f]? = some fn := by kernel_rfl) (h2 : okF fn an args.length = true := by kernel_rfl) (h3 : P = Gm K fn an args R U := by kernel_rfl) : af K f args U R :=
 af.RP Cb an h1 h2 (Eq.mp h3 h)
end Go.Rip
