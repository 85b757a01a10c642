/- Lemmas for the proof: no conditions. -/
import Derived.Test.YtnfpmiiopiinbaaGreatDoorRipZz
import Derived.KernelRfl
import Derived.Lib.LaidTab
import Derived.Lib.ItoaNum
import Derived.Test.YtnfpmiiopiinbaaGreatDoorProg
import Derived.Test.YtnfpmiiopiinbaaGreatDoorRipC
set_option linter.unusedVariables false
set_option linter.unusedSimpArgs false
set_option linter.loopingSimpArgs false
namespace Go.Rip
def w_ : List UInt8 := []
def xx : List UInt8 := [10]
def oe : List UInt8 := [33]
def og : List UInt8 := [40]
def pN : List UInt8 := [41]
def xy : List UInt8 := [42]
def xz : List UInt8 := [43]
def xA : List UInt8 := [44]
def xB : List UInt8 := [45]
def ij : List UInt8 := [45, 62]
def z6 : List UInt8 := [46]
def xC : List UInt8 := [58]
def cw : List UInt8 := [58, 61]
def sh : List UInt8 := [59]
def xD : List UInt8 := [60]
def xE : List UInt8 := [61]
def cE : List UInt8 := [61, 60, 43, 45, 42, 33, 40, 41, 123, 125, 44, 59, 58, 46]
def xF : List UInt8 := [123]
def z7 : List UInt8 := [125]
def z8 : List UInt8 := [97, 110, 100]
def FH : List UInt8 := [97, 115]
def Su : List UInt8 := [98, 111, 111, 108]
def Sv : List UInt8 := [99, 101, 108, 108]
def o7 : List UInt8 := [99, 104, 111, 111, 115, 101]
def Uj : List UInt8 := [99, 111, 109]
def uH : List UInt8 := [100, 101, 102]
def Cg : List UInt8 := [100, 111]
def kf : List UInt8 := [101, 108, 115, 101]
def mY : List UInt8 := [101, 120, 112, 111, 114, 116]
def fH : List UInt8 := [102, 97, 108, 115, 101]
def FJ : List UInt8 := [102, 110]
def FL : List UInt8 := [103, 101, 116]
def kg : List UInt8 := [104, 97, 110, 103]
def yG : List UInt8 := [105, 102]
def mZ : List UInt8 := [105, 109, 112, 111, 114, 116]
def qm : List UInt8 := [105, 110]
def Uk : List UInt8 := [105, 110, 116]
def mI : List UInt8 := [106, 117, 109, 112]
def qX : List UInt8 := [108, 97, 98, 101, 108]
def xH : List UInt8 := [110, 101, 119]
def FN : List UInt8 := [110, 111, 116]
def o9 : List UInt8 := [110, 111, 116, 105, 99, 101]
def W4 : List UInt8 := [111, 102]
def FO : List UInt8 := [111, 114]
def FP : List UInt8 := [112, 117, 116]
def iW : List UInt8 := [115, 107, 105, 112]
def ue : List UInt8 := [116, 104, 101, 110]
def fl : List UInt8 := [116, 114, 117, 101]
def ov : List UInt8 := [119, 104, 105, 108, 101]
end Go.Rip
namespace Go.Rip
open Go.Proofs
def qo : List AV := (List.range 256).map fun c => .int .u8 (if c = 9 \/ c = 10 \/ c = 11 \/ c = 12 \/ c = 13 \/ c = 32 then 1 else 0)
def qO : List AV := (List.range 20).map fun c => .int .u64 (10 ^ c : Nat)
noncomputable def K : bQ := ⟨Tryz.prog, fun i => if i = 0 then .bL qo else if i = 7 then .bL qO else .any, fun i => if i = 7 then some (Lib.pow10Tab.map fun z => Value.int .u64 z).toArray else none⟩
theorem Ab : K.P.follows .mixedOrders = true := by show Tryz.prog.follows .mixedOrders = true; kernel_rfl
end Go.Rip
set_option maxRecDepth 100000
namespace Go.Rip
open Go.Proofs Go.RowKit
noncomputable def tT : Code := match Tryz.f98.body with | some (.seq _ c) => c | _ => .skip
def JV : An := .bk (.sq none (.rg [] [] none) (.cd (.rg [] [] none) (.sq none (.rg [] [] none) (.cd (.sq none (.rg [] [] none) (.rg [] [] (some ⟨[(true, 0), (true, 1), (false, 2), (false, 3), (false, 4)], [⟨4096, 16, 0⟩, ⟨8192, 4096, 1⟩, ⟨0, 1, 0⟩, ⟨0, 8194, 7⟩, ⟨0, 4, 15⟩]⟩))) (.sq none (.rg [] [] none) (.rg [] [] none))))))
def DS (a0 a1 a2 x : AV) (Rn : St -> Prop) (U : St) : Prop :=
 (aw .eql (BT.mk false true false none false) true x AV.cg).wp K U (fun v8 U =>
 ay v8 (
  Rn U) (
  (qg (some (AV.agg [AV.int .i64 0])) x 136 true).wp K U (fun v9 U =>
  (aV v9 1).wp K U (fun v10 U =>
  (aV v9 0).wp K U (fun v11 U =>
  ay v10 (
   (aA.cN [AV.int .i64 0]).wp K U (fun v4 U =>
   (aM (some (true, 1)) v4 v11 U).wp K U (fun _ U =>
   (fun az : St =>
   av K (af (some 0) v4) (fun v12 =>
   av K (ao (some (false, 1)) v12 az) (fun cB =>
   (aM (some (false, 1)) a0 AV.aR U).wp K U (fun _ U => cn ((cQ v12 ++ []) ++ []) az U /\
   (aM (some (false, 1)) a1 cB U).wp K U (fun _ U => cn ((cQ v12 ++ []) ++ []) az U /\
   (aM (some (false, 1)) a2 (AV.bool false) U).wp K U (fun _ U =>
   Rn U) (fun _ _ => False)) (fun _ _ => False)) (fun _ _ => False)))) U) (fun _ _ => False)) (fun _ _ => False)) (
   (oW x).wp K U (fun _ U =>
   Rn U) (fun _ _ => False))) (fun _ _ => False)) (fun _ _ => False)) (fun _ _ => False))) (fun _ _ => False)
theorem Rs {a0 a1 a2 x : AV} {Rn : St -> Prop} {U : St} (h : DS a0 a1 a2 x Rn U) : aY K 14 .bare tT (Mc Rn) ((Env.fQ [a0, a1, a2]).put 6 x) U := by
 have h2 : kh K tT JV ⟨fun _ U => Rn U, fun _ _ _ => False, fun _ U => Rn U, fun _ _ => False⟩ ((Env.fQ [a0, a1, a2]).put 6 x) U :=
  Eq.mp (show DS a0 a1 a2 x Rn U = kh K tT JV ⟨fun _ U => Rn U, fun _ _ _ => False, fun _ U => Rn U, fun _ _ => False⟩ ((Env.fQ [a0, a1, a2]).put 6 x) U by kernel_rfl) h
 refine (uf (nt := 14) Ab tT JV false .bare _ _ _ (by kernel_rfl) (fun h => by cases h) h2).mono fun e ρ U he => ?_
 cases e with
 | normal => exact he
 | ret => exact he
 | exit i => exact he.elim
 | panic x => exact he.elim
theorem St.cj.ne {U : St} {q b : Nat} {l : List AV} (h : U.cj q) (hb : U.box b = some l) : b ≠ q := fun e => by
 subst e
 obtain ⟨y, this, _⟩ := St.oy hb
 rw [h.1] at this; cases this
@[simp] theorem mP (U : St) (b y : Nat) (l : List AV) : (U.set b (.box l)).box y = if y = b then some l else U.box y := by
 simp only [St.box, St.set]; by_cases h : y = b <;> simp [h]
@[simp] theorem xR (U : St) (b y : Nat) (l : List AV) : (U.new b (.box l)).box y = if y = b then some l else U.box y := by
 simp only [St.box, St.new]; by_cases h : y = b <;> simp [h]
theorem Oo {a0 a1 a2 : AV} {Rn : St -> Prop} {U : St} (h : Rn U) : DS a0 a1 a2 .cg Rn U := by
 show ((true = true -> Rn U) /\ _)
 exact ⟨fun _ => h, fun h => by cases h⟩
theorem HC {a b c : Nat} {at_ : Int} {x y z : AV} {Rn : St -> Prop} {U : St} (ha : U.box a = some [x]) (hb : U.box b = some [y]) (hc : U.box c = some [z])
 (h : ∀ q, U.cj q -> Rn ((((U.new q (.box [.int .i64 at_])).bC a [.aR]).bC b [.int .i64 at_]).bC c [.bool false])) : DS (.box a 0) (.box b 0) (.box c 0) (.iface 136 (.agg [.int .i64 at_])) Rn U := by
 have e1 : (aw .eql (BT.mk false true false none false) true (.iface 136 (.agg [.int .i64 at_])) AV.cg) = .val (.bool false) := rfl
 have e2 : (qg (some (AV.agg [AV.int .i64 0])) (.iface 136 (.agg [.int .i64 at_])) 136 true) = .val (.aL [.agg [.int .i64 at_], .bool true]) := rfl
 simp only [DS, e1, e2, ag, aX, bm, bP, List.drop_succ_cons, dC, cK, lq]
 intro q hq
 have qa := hq.ne ha
 have qb := hq.ne hb
 have qc := hq.ne hc
 have s1 : (U.new q (.box [AV.int .i64 0])).box q = some [AV.int .i64 0] := by simp
 simp only [NV.at]
 rw [iZ s1]
 simp only [wp_cond, hC]
 refine ⟨by simp, ?_⟩
 simp only [aU, aC]
 have e3 : (U.new q (.box [AV.int .i64 0])).set q (.box (aB [AV.int .i64 0] 0 (au (.agg [.int .i64 at_])))) = U.new q (.box [.int .i64 at_]) := by
  simp only [St.set, St.new, St.mk.injEq, and_true]
  funext y
  split <;> rfl
 rw [e3]
 have s2 : (U.new q (.box [AV.int .i64 at_])).box q = some [AV.int .i64 at_] := by simp
 rw [oP s2]
 simp only [Nat.add_zero, dC, cK, aC]
 have s3 : (U.new q (.box [AV.int .i64 at_])).box a = some [x] := by rw [xR, if_neg qa]; exact ha
 rw [iZ s3]
 simp only [wp_cond, hC, cn, cQ, jI, kO, forall_eq]
 refine ⟨by simp, by simp [St.set, Ne.symm qa], ?_⟩
 have s4 : ((U.new q (.box [AV.int .i64 at_])).set a (.box (aB [x] 0 (au .aR)))).box b = some [y] \/ b = a := by
  by_cases e : b = a
  · exact .inr e
  · left; rw [mP, if_neg e, xR, if_neg qb]; exact hb
 have Y6 : ∃ y', ((U.new q (.box [AV.int .i64 at_])).set a (.box (aB [x] 0 (au .aR)))).box b = some [y'] := by
  rcases s4 with s4 | rfl
  · exact ⟨_, s4⟩
  · exact ⟨_, by rw [mP, if_pos rfl]; rfl⟩
 obtain ⟨y', s4⟩ := Y6
 rw [iZ s4]
 simp only [wp_cond, hC]
 refine ⟨by simp, by simp [St.set, Ne.symm qa, Ne.symm qb], ?_⟩
 have Y7 : ∃ z', (((U.new q (.box [AV.int .i64 at_])).set a (.box (aB [x] 0 (au .aR)))).set b (.box (aB [y'] 0 (au (.int .i64 at_))))).box c = some [z'] := by
  rw [mP]
  split
  · exact ⟨_, rfl⟩
  · rw [mP]
    split
    · exact ⟨_, rfl⟩
    · rw [xR, if_neg qc]; exact ⟨_, hc⟩
 obtain ⟨z', s5⟩ := Y7
 rw [iZ s5]
 simp only [wp_cond, hC]
 exact ⟨by simp, h q hq⟩
end Go.Rip
set_option maxRecDepth 100000
namespace Go.Rip
open Go.Proofs Go.RowKit
noncomputable def Hx : Array Oper := match Tryz.f54.body with | some (.seq (.region _ o _) _) => o | _ => #[]
noncomputable def nw : Array Oper := match Tryz.f54.body with | some (.seq _ (.seq (.region _ o _) _)) => o | _ => #[]
noncomputable def fh : Array Oper := match Tryz.f54.body with | some (.seq _ (.seq _ (.seq (.region _ o _) _))) => o | _ => #[]
theorem PT : Tryz.f54.body = some (.seq (.region 0 Hx false) (.seq (.region 1 nw false) (.seq (.region 2 fh false) .ret))) := by kernel_rfl
theorem Oc : nw[0]? = some ⟨some 7, .makeFunc (.func 98) #[] #[.tmp 4, .tmp 5, .tmp 6], 1, (nw.getD 0 default).pos, #[], none⟩ := by kernel_rfl
theorem Od : nw[1]? = some ⟨none, .defer { callee := .value (.tmp 7), args := #[], argTypes := #[] }, 0, (nw.getD 1 default).pos, #[⟨0, .data⟩], none⟩ := by kernel_rfl
theorem Oe : fh[0]? = some ⟨some 8, .move (.tmp 1), 90, (fh.getD 0 default).pos, (fh.getD 0 default).after, none⟩ := by kernel_rfl
theorem Of : fh[1]? = some ⟨some 9, .call { callee := .value (.tmp 8), args := #[], argTypes := #[] }, 87, (fh.getD 1 default).pos, (fh.getD 1 default).after, none⟩ := by kernel_rfl
theorem Og : fh[2]? = some ⟨none, .store 87 (.tmp 4) (.tmp 9), 0, (fh.getD 2 default).pos, (fh.getD 2 default).after, none⟩ := by kernel_rfl
theorem Oh : fh[3]? = some ⟨none, .store 3 (.tmp 5) (.const (.int .i64 0)), 0, (fh.getD 3 default).pos, (fh.getD 3 default).after, none⟩ := by kernel_rfl
theorem Oi : fh[4]? = some ⟨none, .store 4 (.tmp 6) (.const (.bool true)), 0, (fh.getD 4 default).pos, (fh.getD 4 default).after, none⟩ := by kernel_rfl
theorem TW : List.range fh.size = [0, 1, 2, 3, 4] := by kernel_rfl
theorem W2 : jJ K.P 87 = some (false, 1) := by kernel_rfl
theorem Zn : jJ K.P 3 = some (false, 1) := by kernel_rfl
theorem Zo : jJ K.P 4 = some (false, 1) := by kernel_rfl
theorem TV : List.range nw.size = [0, 1] := by kernel_rfl
theorem CT {nt id : Nat} {ops : Array Oper} {Q : Qx} {ρ : Env} {U : St} (bV : jk nt ops = true) (h : p6 K [] [] ops ops.toList ρ U Q.n Q.p) : aY K nt .bare (.region id ops false) Q.q ρ U :=
 uf (nt := nt) Ab (.region id ops false) (.rg [] [] none) false .bare Q ρ U bV (fun h => by cases h) h
noncomputable def Rk : Oper := match Tryz.f98.body with | some (.seq (.region _ o _) _) => o.getD 0 default | _ => default
theorem F2 : Tryz.f98.body = some (.seq (.region 0 #[⟨some 6, .call { callee := .builtin .recover, args := #[], argTypes := #[] }, 20, Rk.pos, #[], none⟩] false) tT) := by kernel_rfl
theorem Rb : (Tryz.f98.name == "runtime.NumGoroutine") = false := by kernel_rfl
theorem KJ (captured : Array Value) (w : World) : (invoke (.fn (.func 98) captured) #[]).run K.P w = .ok (.enter 98 captured) w := by
 have hfn : K.P.funcs[98]? = some Tryz.f98 := Tryz.func98
 have h1 : Tryz.f98.name ≠ "runtime.NumGoroutine" := by simpa using Rb
 simp [invoke, callFunc, hfn, h1, F2, Result.andThen, run_program]
theorem TH (ev : Operand -> Value) (w : World) : (execOp ev ⟨some 6, .call { callee := .builtin .recover, args := #[], argTypes := #[] }, 20, Rk.pos, #[], none⟩).run K.P w = .ok .recover w := by
 simp [execOp, Go.resolve, invoke, builtin, Result.andThen]
theorem MQ {g0 g : Gh} {U : St} {w : World} {ρ : Env} {tmps : Array Value} {a b c : Nat} {x y z : AV} {R : cm -> St -> Prop} (hle : Gh.Le g0 g) (hs : aQ g U w) (hr : eo g ρ tmps)
 (h4 : ρ.get 4 = .box a 0) (h5 : ρ.get 5 = .box b 0) (h6 : ρ.get 6 = .box c 0) (ha : U.box a = some [x]) (hb : U.box b = some [y]) (hc : U.box c = some [z]) (hR : R (.ret (.aL [x, y, z])) U) :
 LeavesInM Fence.wide 0 K.P Tryz.f54 tmps (kx g0 R) [] .returning w := by
 have hk : p7 K.P ρ U Tryz.f54.results.toList fun vs => R (.ret (qe vs)) U := by
  refine qQ _ _ ?_
  refine Eq.mp (show (bI (some (false, 1)) (ρ.get 4) U fun x => bI (some (false, 1)) (ρ.get 5) U fun y => bI (some (false, 1)) (ρ.get 6) U fun z => R (.ret (.aL [x, y, z])) U) = _ by kernel_rfl) ?_
  rw [h4, h5, h6]
  simp only [bI, oP ha, oP hb, oP hc, dC, cK]
  exact hR
 obtain ⟨v, xs, eC, hv, hk⟩ := u9 (a := { tmps := tmps, defers := [] }) (fn := Tryz.f54) hs hr hk
 exact ⟨v, eC, g, U, _, hle, hs, hv, hk⟩
theorem B6 : C3 K 136 54 := by
 intro r gf first cap U R oF h g w vs hs hG ha
 have hl := ha.length
 refine callsIn_of_wp_marks Tryz.func54 PT trivial ?_
 have x8 := vr [r, .func (.func gf) first cap] vs (Tryz.f54.ntmps - vs.toArray.size) ha
 have Yl : Tryz.f54.ntmps = 10 := by kernel_rfl
 have cY : (vs.toArray ++ Array.replicate (Tryz.f54.ntmps - vs.toArray.size) undef).size = 10 := by rw [Yl]; simp at hl ⊢; omega
 generalize vs.toArray ++ Array.replicate (Tryz.f54.ntmps - vs.toArray.size) undef = Zi at x8 cY
 have c0 : aY K 10 .bare (.region 0 Hx false) (Qx.q ⟨fun ρ ad => ∃ a b c, U.cj a /\ (U.new a (.box [.aR])).cj b /\ ((U.new a (.box [.aR])).new b (.box [.int .i64 0])).cj c /\
  ρ = (((Env.fQ [r, .func (.func gf) first cap]).put 4 (.box a 0)).put 5 (.box b 0)).put 6 (.box c 0) /\ ad = (((U.new a (.box [.aR])).new b (.box [.int .i64 0])).new c (.box [.bool false])), fun _ _ _ => False, fun _ _ => False, fun _ _ => False⟩)
  (Env.fQ [r, .func (.func gf) first cap]) U := by
  refine CT (by kernel_rfl) ?_
  refine Eq.mp (show (∀ a, U.cj a -> ∀ b, (U.new a (.box [.aR])).cj b -> ∀ c, ((U.new a (.box [.aR])).new b (.box [.int .i64 0])).cj c ->
   (fun (ρ : Env) (ad : St) => ∃ a b c, U.cj a /\ (U.new a (.box [.aR])).cj b /\ ((U.new a (.box [.aR])).new b (.box [.int .i64 0])).cj c /\
   ρ = (((Env.fQ [r, .func (.func gf) first cap]).put 4 (.box a 0)).put 5 (.box b 0)).put 6 (.box c 0) /\ ad = (((U.new a (.box [.aR])).new b (.box [.int .i64 0])).new c (.box [.bool false])))
    ((((Env.fQ [r, .func (.func gf) first cap]).put 4 (.box a 0)).put 5 (.box b 0)).put 6 (.box c 0)) (((U.new a (.box [.aR])).new b (.box [.int .i64 0])).new c (.box [.bool false]))) = _ by kernel_rfl) ?_
  exact fun a ha b hb c hc => ⟨a, b, c, ha, hb, hc, rfl, rfl⟩
 refine wpIn_seq (wpIn_mono (c0 g w { tmps := Zi, defers := [] } none hs hG x8 cY trivial) ?_)
 rintro e a1 w1 ⟨n1, g1, bM, Zs, ms, d1, m1, l1, s1, r1, q1⟩
 have pq : ms = [] := m1.none rfl
 subst pq
 simp only [iL, iN] at d1
 cases e <;> simp only [AA, Qx.q] at q1
 case panic => obtain ⟨_, _, _, _, hf⟩ := q1; exact hf.elim
 obtain ⟨a, b, c, fa, fb, fc, rfl, rfl⟩ := q1
 have Mf := hG.mono l1
 refine wpIn_seq (wpIn_region ?_)
 rw [TV]
 simp only [wpOpsIn, Oc, Od, Region.wanted, if_true]
 have h4 := r1 4; have h5 := r1 5; have h6 := r1 6; have h1 := r1 1
 simp only [Env.put, Env.fQ] at h4 h5 h6 h1
 have h4 : ak g1 (.box a 0) (a1.tmps.getD 4 undef) := h4
 have h5 : ak g1 (.box b 0) (a1.tmps.getD 5 undef) := h5
 have h6 : ak g1 (.box c 0) (a1.tmps.getD 6 undef) := h6
 refine ⟨fun _ _ => trivial, ?_⟩
 let fv : Value := .func (.func 98) #[] #[a1.tmps.getD 4 undef, a1.tmps.getD 5 undef, a1.tmps.getD 6 undef]
 have Yd : (Oper.semAt Fence.wide.round a1.eval ⟨some 7, .makeFunc (.func 98) #[] #[.tmp 4, .tmp 5, .tmp 6], 1, (nw.getD 0 default).pos, #[], none⟩).run K.P w1 = .ok (.value fv) w1 := by
  simp [Oper.semAt, execOp, fv, Act.eval, Fence.wide, Instr.makeFunc, Result.andThen]
 rw [Yd, Oper.uponIn_value]
 have e7 : (a1.put (some 7) fv).eval (.tmp 7) = fv := by
  show (a1.tmps.setIfInBounds 7 fv).getD 7 undef = fv
  simp [n1]
 refine ⟨fun _ _ => trivial, ?_⟩
 have Ku : (Oper.semAt Fence.wide.round (a1.put (some 7) fv).eval ⟨none, .defer { callee := .value (.tmp 7), args := #[], argTypes := #[] }, 0, (nw.getD 1 default).pos, #[⟨0, .data⟩], none⟩).run K.P w1
  = .ok (.defer { target := .fn (.func 98) #[a1.tmps.getD 4 undef, a1.tmps.getD 5 undef, a1.tmps.getD 6 undef], args := #[] }) w1 := by
  simp [Oper.semAt, execOp, Go.resolve, e7, Fence.wide, Deferred.ofValue, Result.andThen]; simp [fv]
 rw [Ku, Oper.uponIn_defer]
 show (Code.seq (.region 2 fh false) .ret).wpIn _ _ _ _ _ _
 let dd : Deferred := { target := .fn (.func 98) #[a1.tmps.getD 4 undef, a1.tmps.getD 5 undef, a1.tmps.getD 6 undef], args := #[] }
 let a2 : Act := { tmps := a1.tmps.setIfInBounds 7 fv, defers := dd :: a1.defers }
 show (Code.seq (.region 2 fh false) .ret).wpIn Fence.wide 0 K.P _ a2 w1
 let nC : Env := ((((Env.fQ [r, .func (.func gf) first cap]).put 4 (.box a 0)).put 5 (.box b 0)).put 6 (.box c 0)).put 7 .any
 have r2 : eo g1 nC a2.tmps := r1.put (by rw [n1]; decide) (by simp only [ak])
 let cC : St := ((U.new a (.box [.aR])).new b (.box [.int .i64 0])).new c (.box [.bool false])
 have ab : a ≠ b := fun e => by subst e; simp [St.cj, St.new] at fb
 have ac : a ≠ c := fun e => by
  subst e
  have := fc.1
  simp only [St.new, if_true] at this
  split at this <;> cases this
 have bc : b ≠ c := fun e => by subst e; simp [St.cj, St.new] at fc
 have n2 : a2.tmps.size = 10 := by show (a1.tmps.setIfInBounds 7 fv).size = 10; simp [n1]
 have d2 : a2.defers = [dd] := by show dd :: a1.defers = _; rw [d1]
 have Uw : a2.tmps.getD 4 undef = a1.tmps.getD 4 undef := by show (a1.tmps.setIfInBounds 7 fv).getD 4 undef = _; simp
 have Ux : a2.tmps.getD 5 undef = a1.tmps.getD 5 undef := by show (a1.tmps.setIfInBounds 7 fv).getD 5 undef = _; simp
 have Uy : a2.tmps.getD 6 undef = a1.tmps.getD 6 undef := by show (a1.tmps.setIfInBounds 7 fv).getD 6 undef = _; simp
 have deferred : ∀ {a3 : Act} {g3 : Gh} {cU : St} {w3 : World} {x : AV} {v : Value} {u u' : FrameMode} {Rn : St -> Prop}, Gh.Le g1 g3 -> a3.defers = [dd] -> aQ g3 cU w3 -> ak g3 x v -> ((u = .returning /\ v = .nilIface /\ u' = .returning) \/ (u = .panicking [{ v, recovered := false }] /\ u' = .panicking [{ v, recovered := true }])) ->
  DS (.box a 0) (.box b 0) (.box c 0) x Rn cU -> (∀ g4 dw w4, Gh.Le g3 g4 -> aQ g4 dw w4 -> Rn dw -> LeavesInM Fence.wide 0 K.P Tryz.f54 a3.tmps (kx g R) [] (settle u') w4) ->
  LeavesInM Fence.wide 0 K.P Tryz.f54 a3.tmps (kx g R) a3.defers u w3 := by
  intro a3 g3 cU w3 x v u u' Rn l3 d3 s3 hx hu hr hk
  rw [d3]
  simp only [LeavesInM]
  have Tf : ar g3 [.box a 0, .box b 0, .box c 0] [a1.tmps.getD 4 undef, a1.tmps.getD 5 undef, a1.tmps.getD 6 undef] := by
   simp only [ar]
   exact ⟨_, _, rfl, h4.mono l3, _, _, rfl, h5.mono l3, _, _, rfl, h6.mono l3, rfl⟩
  refine ⟨by rcases hu with ⟨rfl, _⟩ | ⟨rfl, _⟩ <;> simp, .inr ⟨fun hd => by simp [Fence.wide] at hd, .func 98, _, 98, _, rfl, KJ _ _, fun _ _ => trivial, ?_⟩⟩
  have := Ot (C := K) (f := 98) (fn := Tryz.f98) (id := 0) (d := 6) (vs := [a1.tmps.getD 4 undef, a1.tmps.getD 5 undef, a1.tmps.getD 6 undef]) (args := [.box a 0, .box b 0, .box c 0]) (hf := Tryz.func98) (hb := F2) (hres := by kernel_rfl) (hop := TH) (hd := rfl) (hdn := by decide +kernel) (hg := rfl)
   (hlen := Nat.le_of_ble_eq_true (n := 3) (m := Tryz.f98.ntmps) (by kernel_rfl)) s3 (Mf.mono l3) Tf hx hu Rn (Rs hr)
  refine CallsDIn.mono this ?_
  rintro e u2 w4 ⟨v', rfl, rfl, g4, dw, l4, s4, hn⟩
  exact hk g4 dw w4 l4 s4 hn
 refine wpIn_seq (wpIn_region ?_)
 rw [TW]
 simp only [wpOpsIn, Oe, Of, Og, Oh, Oi, Region.wanted, if_true]
 refine lH (fr := none) (C := K) (nt := 10) (g := g1) (U := cC) (ρ := nC) (mu := false) (ds := []) (K := fun x s => x = .func (.func gf) first cap /\ s = cC) (Kp := fun _ _ => False) (by rfl) s1 Mf r2 n2 ?_ ?_ (fun _ _ _ _ _ _ _ _ hf => hf.elim)
 · exact ⟨rfl, rfl⟩
 rintro g2 ad w2 x v l2 s2 hx ⟨rfl, rfl⟩
 have r3 : eo g2 (nC.put 8 (.func (.func gf) first cap)) (a2.put (some 8) v).tmps := (r2.mono l2).put (by rw [n2]; decide) hx
 have n3 : (a2.put (some 8) v).tmps.size = 10 := by rw [(j0 _ _ _).2]; exact n2
 refine lH (fr := none) (C := K) (nt := 10) (g := g2) (U := cC) (ρ := nC.put 8 (.func (.func gf) first cap)) (mu := false) (ds := []) (K := fun x s => B5 136 a b c R (.ret x) s) (Kp := fun x s => B5 136 a b c R (.panic x) s) (by rfl) s2 (Mf.mono l2) r3 n3 ?_ ?_ ?_
 · show ((eT K.P (.func (.func gf) first cap) []).wp K cC _ _)
   simp only [eT, oF, if_true, gI, jI]
   refine (h a b c fa fb fc).mono fun res ad hres => ?_
   cases res <;> exact hres
 · rintro g3 cU w3 x v3 l3 s3 QW ⟨MB, ⟨xa, ba⟩, ⟨xb, bb⟩, ⟨xc, Xe⟩, hR⟩
   have XL : au x = [x] := by cases x <;> first | rfl | cases MB
   have wK : x.cr = true := by cases x <;> first | rfl | cases MB
   have r4 : eo g3 ((nC.put 8 (.func (.func gf) first cap)).put 9 x) ((a2.put (some 8) v).put (some 9) v3).tmps := (r3.mono l3).put (by rw [n3]; decide) QW
   have n4 : ((a2.put (some 8) v).put (some 9) v3).tmps.size = 10 := by rw [(j0 _ _ _).2]; exact n3
   have P7 := Mf.mono (l2.trans l3)
   refine lH (fr := none) (C := K) (nt := 10) (g := g3) (U := cU) (ρ := (nC.put 8 (.func (.func gf) first cap)).put 9 x) (mu := false) (ds := []) (K := fun y s => s = cU.bC a [x]) (Kp := fun _ _ => False) (by rfl) s3 P7 r4 n4 ?_ ?_ (fun _ _ _ _ _ _ _ _ hf => hf.elim)
   · rw [<- oV]
     show (aM (jJ K.P 87) (.box a 0) x cU).wp K cU _ _
     rw [W2, iZ ba]
     simp only [wp_cond, hC, XL]
     exact ⟨⟨wK, rfl, by simp⟩, rfl⟩
   rintro g4 _ w4 _ _ l4 s4 _ rfl
   refine lH (fr := none) (C := K) (nt := 10) (g := g4) (U := cU.bC a [x]) (ρ := (nC.put 8 (.func (.func gf) first cap)).put 9 x) (mu := false) (ds := []) (K := fun y s => s = (cU.bC a [x]).bC b [.int .i64 0]) (Kp := fun _ _ => False) (by rfl) s4 (P7.mono l4) (r4.mono l4) n4 ?_ ?_ (fun _ _ _ _ _ _ _ _ hf => hf.elim)
   · rw [<- oV]
     show (aM (jJ K.P 3) (.box b 0) (.int .i64 0) (cU.bC a [x])).wp K _ _ _
     have : (cU.bC a [x]).box b = some [xb] := by simp only [St.bC]; rw [mP, if_neg (Ne.symm ab)]; exact bb
     rw [Zn, iZ this]
     simp only [wp_cond, hC]
     exact ⟨by simp, rfl⟩
   rintro g5 _ w5 _ _ l5 s5 _ rfl
   refine lH (fr := none) (C := K) (nt := 10) (g := g5) (U := (cU.bC a [x]).bC b [.int .i64 0]) (ρ := (nC.put 8 (.func (.func gf) first cap)).put 9 x) (mu := false) (ds := []) (K := fun y s => s = ((cU.bC a [x]).bC b [.int .i64 0]).bC c [.bool true]) (Kp := fun _ _ => False) (by rfl) s5 (P7.mono (l4.trans l5)) (r4.mono (l4.trans l5)) n4 ?_ ?_ (fun _ _ _ _ _ _ _ _ hf => hf.elim)
   · rw [<- oV]
     show (aM (jJ K.P 4) (.box c 0) (.bool true) ((cU.bC a [x]).bC b [.int .i64 0])).wp K _ _ _
     have : ((cU.bC a [x]).bC b [.int .i64 0]).box c = some [xc] := by simp only [St.bC]; rw [mP, if_neg (Ne.symm bc), mP, if_neg (Ne.symm ac)]; exact Xe
     rw [Zo, iZ this]
     simp only [wp_cond, hC]
     exact ⟨by simp, rfl⟩
   rintro g6 _ w6 _ _ l6 s6 _ rfl
   show Code.wpIn Fence.wide 0 K.P .ret _ _ _
   refine wpIn_ret ?_
   have Vl := l2.trans (l3.trans (l4.trans (l5.trans l6)))
   refine deferred (a3 := (a2.put (some 8) v).put (some 9) v3) (x := .cg) (v := .nilIface) (u := .returning) (u' := .returning) (Rn := fun s => s = ((cU.bC a [x]).bC b [.int .i64 0]).bC c [.bool true]) Vl d2 s6 (by simp only [ak]) (.inl ⟨rfl, rfl, rfl⟩) (Oo rfl) ?_
   rintro g7 l8 w7 l7 s7 rfl
   exact MQ (l1.trans (Vl.trans l7)) s7 (r4.mono ((l4.trans (l5.trans l6)).trans l7)) rfl rfl rfl (by simp [St.bC, ac, ab]) (by simp [St.bC, bc]) (by simp [St.bC]) hR
 · rintro g3 cU w3 x v3 l3 s3 QW ⟨at_, rfl, ⟨xa, ka⟩, ⟨xb, kb⟩, ⟨xc, kc⟩, hR⟩
   show LeavesInM Fence.wide 0 K.P Tryz.f54 (a2.put (some 8) v).tmps (kx g R) (a2.put (some 8) v).defers _ w3
   refine deferred (a3 := a2.put (some 8) v) (u := .panicking [{ v := v3, recovered := false }]) (u' := .panicking [{ v := v3, recovered := true }]) (Rn := fun s => ∃ q, cU.cj q /\ s = ((((cU.new q (.box [.int .i64 at_])).bC a [.aR]).bC b [.int .i64 at_]).bC c [.bool false])) (l2.trans l3) d2 s3 QW (.inr ⟨rfl, rfl⟩) (HC ka kb kc fun q hq => ⟨q, hq, rfl⟩) ?_
   rintro g4 dw w4 l4 s4 ⟨q, hq, rfl⟩
   exact MQ (l1.trans ((l2.trans l3).trans l4)) s4 ((r3.mono l3).mono l4) rfl rfl rfl (by simp [St.bC, ac, ab]) (by simp [St.bC, bc]) (by simp [St.bC]) (hR q hq)
end Go.Rip
namespace Go.Rip
open Go.Proofs
abbrev eI : An := .rg [] [] none
abbrev aS (a b : An) : An := .sq none a b
abbrev ai (b : An) : An := .sq none (.rg [] [] none) b
abbrev aO : BT := BT.mk false false false none false
abbrev aE : Option (Bool × Nat) := some (false, 1)
theorem bJ {f : FuncId} {args : List AV} {R : cm -> St -> Prop} {U : St} {P : Prop} (fn : Func) (an : An) (h : P) (h1 : K.P.funcs[f]? = some fn := by kernel_rfl) (h2 : okF fn an args.length = true := by kernel_rfl) (h3 : P = D5 K fn an args R U := by kernel_rfl) : ae K f args U R :=
 ae.Oa Ab an h1 h2 (Eq.mp h3 h)
end Go.Rip
