/- Lemmas for the proof that ParseNames returns true: no conditions. -/
import Derived.Test.YtnfpmiiopiinbaaGreatDoorRipC
import Derived.KernelRfl
import Derived.Lib.LaidTab
import Derived.Lib.ItoaNum
import Derived.Test.YtnfpmiiopiinbaaGreatDoorProg
/- Texts that the program names: no conditions. -/
namespace Go.Rip
def w_ : List UInt8 := []
def w_0001020304050607_n98 : List UInt8 := [48, 48, 48, 49, 48, 50, 48, 51, 48, 52, 48, 53, 48, 54, 48, 55, 48, 56, 48, 57, 49, 48, 49, 49, 49, 50, 49, 51, 49, 52, 49, 53, 49, 54, 49, 55, 49, 56, 49, 57, 50, 48, 50, 49, 50, 50, 50, 51, 50, 52, 50, 53, 50, 54, 50, 55, 50, 56, 50, 57, 51, 48, 51, 49, 51, 50, 51, 51, 51, 52, 51, 53, 51, 54, 51, 55, 51, 56, 51, 57, 52, 48, 52, 49, 52, 50, 52, 51, 52, 52, 52, 53, 52, 54, 52, 55, 52, 56, 52, 57, 53, 48, 53, 49, 53, 50, 53, 51, 53, 52, 53, 53, 53, 54, 53, 55, 53, 56, 53, 57, 54, 48, 54, 49, 54, 50, 54, 51, 54, 52, 54, 53, 54, 54, 54, 55, 54, 56, 54, 57, 55, 48, 55, 49, 55, 50, 55, 51, 55, 52, 55, 53, 55, 54, 55, 55, 55, 56, 55, 57, 56, 48, 56, 49, 56, 50, 56, 51, 56, 52, 56, 53, 56, 54, 56, 55, 56, 56, 56, 57, 57, 48, 57, 49, 57, 50, 57, 51, 57, 52, 57, 53, 57, 54, 57, 55, 57, 56, 57, 57]
def w_0123456789 : List UInt8 := [48, 49, 50, 51, 52, 53, 54, 55, 56, 57]
def w_0123456789abcdef_n97 : List UInt8 := [48, 49, 50, 51, 52, 53, 54, 55, 56, 57, 97, 98, 99, 100, 101, 102, 103, 104, 105, 106, 107, 108, 109, 110, 111, 112, 113, 114, 115, 116, 117, 118, 119, 120, 121, 122]
def w_Atoi : List UInt8 := [65, 116, 111, 105]
def w__00_01_02_02_03__n100 : List UInt8 := [0, 1, 2, 2, 3, 3, 3, 3, 4, 4, 4, 4, 4, 4, 4, 4, 5, 5, 5, 5, 5, 5, 5, 5, 5, 5, 5, 5, 5, 5, 5, 5, 6, 6, 6, 6, 6, 6, 6, 6, 6, 6, 6, 6, 6, 6, 6, 6, 6, 6, 6, 6, 6, 6, 6, 6, 6, 6, 6, 6, 6, 6, 6, 6, 7, 7, 7, 7, 7, 7, 7, 7, 7, 7, 7, 7, 7, 7, 7, 7, 7, 7, 7, 7, 7, 7, 7, 7, 7, 7, 7, 7, 7, 7, 7, 7, 7, 7, 7, 7, 7, 7, 7, 7, 7, 7, 7, 7, 7, 7, 7, 7, 7, 7, 7, 7, 7, 7, 7, 7, 7, 7, 7, 7, 7, 7, 7, 7, 8, 8, 8, 8, 8, 8, 8, 8, 8, 8, 8, 8, 8, 8, 8, 8, 8, 8, 8, 8, 8, 8, 8, 8, 8, 8, 8, 8, 8, 8, 8, 8, 8, 8, 8, 8, 8, 8, 8, 8, 8, 8, 8, 8, 8, 8, 8, 8, 8, 8, 8, 8, 8, 8, 8, 8, 8, 8, 8, 8, 8, 8, 8, 8, 8, 8, 8, 8, 8, 8, 8, 8, 8, 8, 8, 8, 8, 8, 8, 8, 8, 8, 8, 8, 8, 8, 8, 8, 8, 8, 8, 8, 8, 8, 8, 8, 8, 8, 8, 8, 8, 8, 8, 8, 8, 8, 8, 8, 8, 8, 8, 8, 8, 8, 8, 8, 8, 8, 8, 8, 8, 8, 8, 8, 8, 8, 8, 8]
def w__0a : List UInt8 := [10]
def w__0adef_20 : List UInt8 := [10, 100, 101, 102, 32]
def w__20 : List UInt8 := [32]
def w__20_28 : List UInt8 := [32, 40]
def w__20_2e : List UInt8 := [32, 46]
def w__20_3a : List UInt8 := [32, 58]
def w__20_3a_20 : List UInt8 := [32, 58, 32]
def w__20_3a_3d : List UInt8 := [32, 58, 61]
def w__20_3a_3d_20 : List UInt8 := [32, 58, 61, 32]
def w__20in : List UInt8 := [32, 105, 110]
def w__21 : List UInt8 := [33]
def w__21_20 : List UInt8 := [33, 32]
def w__28 : List UInt8 := [40]
def w__28a_2ab_29_2bc : List UInt8 := [40, 97, 42, 98, 41, 43, 99]
def w__28a_2bb_29_2ac : List UInt8 := [40, 97, 43, 98, 41, 42, 99]
def w__29 : List UInt8 := [41]
def w__29_20_2d_3e : List UInt8 := [41, 32, 45, 62]
def w__29_20_3a : List UInt8 := [41, 32, 58]
def w__2a : List UInt8 := [42]
def w__2b : List UInt8 := [43]
def w__2c : List UInt8 := [44]
def w__2d : List UInt8 := [45]
def w__2d_3e : List UInt8 := [45, 62]
def w__2e : List UInt8 := [46]
def w__3a : List UInt8 := [58]
def w__3a_3d : List UInt8 := [58, 61]
def w__3b : List UInt8 := [59]
def w__3b_20put_20 : List UInt8 := [59, 32, 112, 117, 116, 32]
def w__3c : List UInt8 := [60]
def w__3d : List UInt8 := [61]
def w__3d_3c_2b_2d_2a__n53 : List UInt8 := [61, 60, 43, 45, 42, 33, 40, 41, 123, 125, 44, 59, 58, 46]
def w__7b : List UInt8 := [123]
def w__7b_20get : List UInt8 := [123, 32, 103, 101, 116]
def w__7d : List UInt8 := [125]
def w_a_2ab_2bc : List UInt8 := [97, 42, 98, 43, 99]
def w_a_2d_28b_2dc_29 : List UInt8 := [97, 45, 40, 98, 45, 99, 41]
def w_and : List UInt8 := [97, 110, 100]
def w_and_20as_20bool__n54 : List UInt8 := [97, 110, 100, 32, 97, 115, 32, 98, 111, 111, 108, 32, 99, 101, 108, 108, 32, 99, 104, 111, 111, 115, 101, 32, 99, 111, 109, 32, 100, 101, 102, 32, 100, 111, 32, 101, 108, 115, 101, 32, 101, 120, 112, 111, 114, 116, 32, 102, 97, 108, 115, 101, 32, 102, 110, 32, 103, 101, 116, 32, 104, 97, 110, 103, 32, 105, 102, 32, 105, 109, 112, 111, 114, 116, 32, 105, 110, 32, 105, 110, 116, 32, 106, 117, 109, 112, 32, 108, 97, 98, 101, 108, 32, 110, 101, 119, 32, 110, 111, 116, 32, 110, 111, 116, 105, 99, 101, 32, 111, 102, 32, 111, 114, 32, 112, 117, 116, 32, 115, 107, 105, 112, 32, 116, 104, 101, 110, 32, 116, 114, 117, 101, 32, 119, 104, 105, 108, 101]
def w_as : List UInt8 := [97, 115]
def w_as_20 : List UInt8 := [97, 115, 32]
def w_bool : List UInt8 := [98, 111, 111, 108]
def w_cannot_20be_20negative : List UInt8 := [99, 97, 110, 110, 111, 116, 32, 98, 101, 32, 110, 101, 103, 97, 116, 105, 118, 101]
def w_cell : List UInt8 := [99, 101, 108, 108]
def w_cell_20 : List UInt8 := [99, 101, 108, 108, 32]
def w_choose : List UInt8 := [99, 104, 111, 111, 115, 101]
def w_com : List UInt8 := [99, 111, 109]
def w_def : List UInt8 := [100, 101, 102]
def w_def_20 : List UInt8 := [100, 101, 102, 32]
def w_def_20f_20_28_20_n5 : List UInt8 := [100, 101, 102, 32, 102, 32, 40, 32, 97, 32, 58, 32, 105, 110, 116, 32, 50, 32, 41, 32, 58, 32, 99, 111, 109, 32, 61, 32, 40, 97, 32, 59, 32, 98, 41, 32, 59]
def w_def_20f_28_29_3acom_3d : List UInt8 := [100, 101, 102, 32, 102, 40, 41, 58, 99, 111, 109, 61]
def w_def_20f_28_29_3acom_3da : List UInt8 := [100, 101, 102, 32, 102, 40, 41, 58, 99, 111, 109, 61, 97]
def w_def_20f_28_3acom_3da_3b : List UInt8 := [100, 101, 102, 32, 102, 40, 58, 99, 111, 109, 61, 97, 59]
def w_def_20f_28_3b_20_n17 : List UInt8 := [100, 101, 102, 32, 102, 40, 59, 32, 100, 101, 102, 32, 103, 40, 41, 58, 99, 111, 109, 61, 97, 59]
def w_def_20f_28a_3abo_n8 : List UInt8 := [100, 101, 102, 32, 102, 40, 97, 58, 98, 111, 111, 108, 41, 58, 99, 111, 109, 61, 97, 59, 98, 59, 10]
def w_do : List UInt8 := [100, 111]
def w_else : List UInt8 := [101, 108, 115, 101]
def w_export : List UInt8 := [101, 120, 112, 111, 114, 116]
def w_export_20 : List UInt8 := [101, 120, 112, 111, 114, 116, 32]
def w_export_20f_28_29_n16 : List UInt8 := [101, 120, 112, 111, 114, 116, 32, 102, 40, 41, 58, 98, 111, 111, 108, 61, 120, 60, 49, 59]
def w_false : List UInt8 := [102, 97, 108, 115, 101]
def w_fn : List UInt8 := [102, 110]
def w_fn_20_28 : List UInt8 := [102, 110, 32, 40]
def w_g : List UInt8 := [103]
def w_get : List UInt8 := [103, 101, 116]
def w_hang : List UInt8 := [104, 97, 110, 103]
def w_if : List UInt8 := [105, 102]
def w_if_20_28a_3bb_29_n14 : List UInt8 := [105, 102, 32, 40, 97, 59, 98, 41, 32, 116, 104, 101, 110, 32, 99, 32, 101, 108, 115, 101, 32, 40, 100, 58, 61, 101, 41]
def w_if_28a_3bb_29the_n15 : List UInt8 := [105, 102, 40, 97, 59, 98, 41, 116, 104, 101, 110, 32, 99, 32, 101, 108, 115, 101, 32, 100, 58, 61, 101]
def w_import : List UInt8 := [105, 109, 112, 111, 114, 116]
def w_import_20 : List UInt8 := [105, 109, 112, 111, 114, 116, 32]
def w_in : List UInt8 := [105, 110]
def w_int : List UInt8 := [105, 110, 116]
def w_int_20 : List UInt8 := [105, 110, 116, 32]
def w_invalid_20base_20 : List UInt8 := [105, 110, 118, 97, 108, 105, 100, 32, 98, 97, 115, 101, 32]
def w_invalid_20bit_20size_20 : List UInt8 := [105, 110, 118, 97, 108, 105, 100, 32, 98, 105, 116, 32, 115, 105, 122, 101, 32]
def w_jump : List UInt8 := [106, 117, 109, 112]
def w_jump_20 : List UInt8 := [106, 117, 109, 112, 32]
def w_label : List UInt8 := [108, 97, 98, 101, 108]
def w_label_20 : List UInt8 := [108, 97, 98, 101, 108, 32]
def w_len_20out_20of_20range : List UInt8 := [108, 101, 110, 32, 111, 117, 116, 32, 111, 102, 32, 114, 97, 110, 103, 101]
def w_new : List UInt8 := [110, 101, 119]
def w_new_20 : List UInt8 := [110, 101, 119, 32]
def w_not : List UInt8 := [110, 111, 116]
def w_notice : List UInt8 := [110, 111, 116, 105, 99, 101]
def w_notice_20 : List UInt8 := [110, 111, 116, 105, 99, 101, 32]
def w_of : List UInt8 := [111, 102]
def w_or : List UInt8 := [111, 114]
def w_put : List UInt8 := [112, 117, 116]
def w_skip : List UInt8 := [115, 107, 105, 112]
def w_strconv_3a_20ill_n99 : List UInt8 := [115, 116, 114, 99, 111, 110, 118, 58, 32, 105, 108, 108, 101, 103, 97, 108, 32, 65, 112, 112, 101, 110, 100, 73, 110, 116, 47, 70, 111, 114, 109, 97, 116, 73, 110, 116, 32, 98, 97, 115, 101]
def w_then : List UInt8 := [116, 104, 101, 110]
def w_true : List UInt8 := [116, 114, 117, 101]
def w_while : List UInt8 := [119, 104, 105, 108, 101]
def w_x_3c1 : List UInt8 := [120, 60, 49]
def w_z : List UInt8 := [122]
end Go.Rip

namespace Go.Rip
open Go.Proofs
def asciiL : List AV := (List.range 256).map fun c => .int .u8 (if c = 9 ∨ c = 10 ∨ c = 11 ∨ c = 12 ∨ c = 13 ∨ c = 32 then 1 else 0)
def pow10L : List AV := (List.range 20).map fun c => .int .u64 (10 ^ c : Nat)
noncomputable def K : Cfg := ⟨Tryz.prog, fun i => if i = 0 then .eptr asciiL else if i = 7 then .eptr pow10L else .any, fun i => if i = 7 then some (Lib.pow10Tab.map fun z => Value.int .u64 z).toArray else none⟩
theorem K_m : K.P.follows .mixedOrders = true := by show Tryz.prog.follows .mixedOrders = true; kernel_rfl
end Go.Rip

set_option linter.unusedSimpArgs false
set_option linter.unusedVariables false
set_option maxRecDepth 100000
namespace Go.Rip
open Go.Proofs Go.RowKit
noncomputable def rest98 : Code := match Tryz.f98.body with | some (.seq _ c) => c | _ => .skip
def an98 : An := .bk (.sq none (.rg [] [] none) (.cd (.rg [] [] none) (.sq none (.rg [] [] none) (.cd (.sq none (.rg [] [] none) (.rg [] [] (some ⟨[(true, 0), (true, 1), (false, 2), (false, 3), (false, 4)], [⟨4096, 16, 0⟩, ⟨8192, 4096, 1⟩, ⟨0, 1, 0⟩, ⟨0, 8194, 7⟩, ⟨0, 4, 15⟩]⟩))) (.sq none (.rg [] [] none) (.rg [] [] none))))))
def r98 (a0 a1 a2 x : AV) (Rn : St → Prop) (σ : St) : Prop :=
  (binR .eql (BT.mk false true false none) true x AV.niliface).wp K σ (fun v8 σ =>
  guardW v8 (
    Rn σ) (
    (typeAssertR (some (AV.agg [AV.int .i64 0])) x 136 true).wp K σ (fun v9 σ =>
    (extractA v9 1).wp K σ (fun v10 σ =>
    (extractA v9 0).wp K σ (fun v11 σ =>
    guardW v10 (
      (OpR.newBox [AV.int .i64 0]).wp K σ (fun v4 σ =>
      (storeR (some (true, 1)) v4 v11 σ).wp K σ (fun _ σ =>
      (fun σ0 : St =>
      quietW K (fieldAddrR (some 0) v4) (fun v12 =>
      quietW K (loadR (some (false, 1)) v12 σ0) (fun v13 =>
      (storeR (some (false, 1)) a0 AV.nilptr σ).wp K σ (fun _ σ => SameAt ((headN v12 ++ []) ++ []) σ0 σ ∧
      (storeR (some (false, 1)) a1 v13 σ).wp K σ (fun _ σ => SameAt ((headN v12 ++ []) ++ []) σ0 σ ∧
      (storeR (some (false, 1)) a2 (AV.bool false) σ).wp K σ (fun _ σ => 
      Rn σ) (fun _ _ => False)) (fun _ _ => False)) (fun _ _ => False)))) σ) (fun _ _ => False)) (fun _ _ => False)) (
      (panicA x).wp K σ (fun _ σ =>
      Rn σ) (fun _ _ => False))) (fun _ _ => False)) (fun _ _ => False)) (fun _ _ => False))) (fun _ _ => False)

theorem r98_ok {a0 a1 a2 x : AV} {Rn : St → Prop} {σ : St} (h : r98 a0 a1 a2 x Rn σ) : CodeA K 14 .bare rest98 (doneQ Rn) ((Env.ofArgs [a0, a1, a2]).put 6 x) σ := by
  have h2 : wpC K rest98 an98 ⟨fun _ σ => Rn σ, fun _ _ _ => False, fun _ σ => Rn σ, fun _ _ => False⟩ ((Env.ofArgs [a0, a1, a2]).put 6 x) σ :=
    Eq.mp (show r98 a0 a1 a2 x Rn σ = wpC K rest98 an98 ⟨fun _ σ => Rn σ, fun _ _ _ => False, fun _ σ => Rn σ, fun _ _ => False⟩ ((Env.ofArgs [a0, a1, a2]).put 6 x) σ by kernel_rfl) h
  refine (wpC_sound (nt := 14) K_m rest98 an98 false .bare _ _ _ (by kernel_rfl) (fun h => by cases h) h2).mono fun e ρ σ he => ?_
  cases e with
  | normal => exact he
  | ret => exact he
  | exit i => exact he.elim
  | panic x => exact he.elim
theorem St.Fresh.ne {σ : St} {q b : Nat} {l : List AV} (h : σ.Fresh q) (hb : σ.box b = some l) : b ≠ q := fun e => by
  subst e
  obtain ⟨y, this, _⟩ := St.box_live hb
  rw [h.1] at this; cases this
@[simp] theorem box_set (σ : St) (b y : Nat) (l : List AV) : (σ.set b (.box l)).box y = if y = b then some l else σ.box y := by
  simp only [St.box, St.set]; by_cases h : y = b <;> simp [h]
@[simp] theorem box_new (σ : St) (b y : Nat) (l : List AV) : (σ.new b (.box l)).box y = if y = b then some l else σ.box y := by
  simp only [St.box, St.new]; by_cases h : y = b <;> simp [h]
theorem r98_nil {a0 a1 a2 : AV} {Rn : St → Prop} {σ : St} (h : Rn σ) : r98 a0 a1 a2 .niliface Rn σ := by
  show ((true = true → Rn σ) ∧ _)
  exact ⟨fun _ => h, fun h => by cases h⟩
theorem r98_fault {a b c : Nat} {at_ : Int} {x y z : AV} {Rn : St → Prop} {σ : St} (ha : σ.box a = some [x]) (hb : σ.box b = some [y]) (hc : σ.box c = some [z])
    (h : ∀ q, σ.Fresh q → Rn ((((σ.new q (.box [.int .i64 at_])).setBox a [.nilptr]).setBox b [.int .i64 at_]).setBox c [.bool false])) : r98 (.box a 0) (.box b 0) (.box c 0) (.iface 136 (.agg [.int .i64 at_])) Rn σ := by
  have e1 : (binR .eql (BT.mk false true false none) true (.iface 136 (.agg [.int .i64 at_])) AV.niliface) = .val (.bool false) := rfl
  have e2 : (typeAssertR (some (AV.agg [AV.int .i64 0])) (.iface 136 (.agg [.int .i64 at_])) 136 true) = .val (.tup [.agg [.int .i64 at_], .bool true]) := rfl
  simp only [r98, e1, e2, wp_val, guardW_f, guardW_t, extract_tup, List.drop_succ_cons, List.drop_zero, headR_cons, wp_new]
  intro q hq
  have qa := hq.ne ha
  have qb := hq.ne hb
  have qc := hq.ne hc
  have s1 : (σ.new q (.box [AV.int .i64 0])).box q = some [AV.int .i64 0] := by simp
  simp only [NV.at]
  rw [store_box s1]
  simp only [wp_cond, wp_upd]
  refine ⟨by simp, ?_⟩
  simp only [fieldAddr_box, quietW_val]
  have e3 : (σ.new q (.box [AV.int .i64 0])).set q (.box (spliceL [AV.int .i64 0] 0 (cellsA (.agg [.int .i64 at_])))) = σ.new q (.box [.int .i64 at_]) := by
    simp only [St.set, St.new, St.mk.injEq, and_true]
    funext y
    split <;> rfl
  rw [e3]
  have s2 : (σ.new q (.box [AV.int .i64 at_])).box q = some [AV.int .i64 at_] := by simp
  rw [load_box s2]
  simp only [Nat.add_zero, List.drop_zero, headR_cons, quietW_val]
  have s3 : (σ.new q (.box [AV.int .i64 at_])).box a = some [x] := by rw [box_new, if_neg qa]; exact ha
  rw [store_box s3]
  simp only [wp_cond, wp_upd, SameAt, headN, List.append_nil, List.mem_singleton, forall_eq]
  refine ⟨by simp, by simp [St.set, Ne.symm qa], ?_⟩
  have s4 : ((σ.new q (.box [AV.int .i64 at_])).set a (.box (spliceL [x] 0 (cellsA .nilptr)))).box b = some [y] ∨ b = a := by
    by_cases e : b = a
    · exact .inr e
    · left; rw [box_set, if_neg e, box_new, if_neg qb]; exact hb
  have s4' : ∃ y', ((σ.new q (.box [AV.int .i64 at_])).set a (.box (spliceL [x] 0 (cellsA .nilptr)))).box b = some [y'] := by
    rcases s4 with s4 | rfl
    · exact ⟨_, s4⟩
    · exact ⟨_, by rw [box_set, if_pos rfl]; rfl⟩
  obtain ⟨y', s4⟩ := s4'
  rw [store_box s4]
  simp only [wp_cond, wp_upd]
  refine ⟨by simp, by simp [St.set, Ne.symm qa, Ne.symm qb], ?_⟩
  have s5' : ∃ z', (((σ.new q (.box [AV.int .i64 at_])).set a (.box (spliceL [x] 0 (cellsA .nilptr)))).set b (.box (spliceL [y'] 0 (cellsA (.int .i64 at_))))).box c = some [z'] := by
    rw [box_set]
    split
    · exact ⟨_, rfl⟩
    · rw [box_set]
      split
      · exact ⟨_, rfl⟩
      · rw [box_new, if_neg qc]; exact ⟨_, hc⟩
  obtain ⟨z', s5⟩ := s5'
  rw [store_box s5]
  simp only [wp_cond, wp_upd]
  exact ⟨by simp, h q hq⟩
end Go.Rip

set_option linter.unusedSimpArgs false
set_option linter.unusedVariables false
set_option maxRecDepth 100000
namespace Go.Rip
open Go.Proofs Go.RowKit
noncomputable def ops540 : Array Oper := match Tryz.f54.body with | some (.seq (.region _ o _) _) => o | _ => #[]
noncomputable def ops541 : Array Oper := match Tryz.f54.body with | some (.seq _ (.seq (.region _ o _) _)) => o | _ => #[]
noncomputable def ops542 : Array Oper := match Tryz.f54.body with | some (.seq _ (.seq _ (.seq (.region _ o _) _))) => o | _ => #[]
theorem body54 : Tryz.f54.body = some (.seq (.region 0 ops540 false) (.seq (.region 1 ops541 false) (.seq (.region 2 ops542 false) .ret))) := by kernel_rfl
theorem op541_0 : ops541[0]? = some ⟨some 7, .makeFunc (.func 98) #[] #[.tmp 4, .tmp 5, .tmp 6], 1, (ops541.getD 0 default).pos, #[], none⟩ := by kernel_rfl
theorem op541_1 : ops541[1]? = some ⟨none, .defer { callee := .value (.tmp 7), args := #[], argTypes := #[] }, 0, (ops541.getD 1 default).pos, #[⟨0, .data⟩], none⟩ := by kernel_rfl
theorem op542_0 : ops542[0]? = some ⟨some 8, .move (.tmp 1), 90, (ops542.getD 0 default).pos, (ops542.getD 0 default).after, none⟩ := by kernel_rfl
theorem op542_1 : ops542[1]? = some ⟨some 9, .call { callee := .value (.tmp 8), args := #[], argTypes := #[] }, 87, (ops542.getD 1 default).pos, (ops542.getD 1 default).after, none⟩ := by kernel_rfl
theorem op542_2 : ops542[2]? = some ⟨none, .store 87 (.tmp 4) (.tmp 9), 0, (ops542.getD 2 default).pos, (ops542.getD 2 default).after, none⟩ := by kernel_rfl
theorem op542_3 : ops542[3]? = some ⟨none, .store 3 (.tmp 5) (.const (.int .i64 0)), 0, (ops542.getD 3 default).pos, (ops542.getD 3 default).after, none⟩ := by kernel_rfl
theorem op542_4 : ops542[4]? = some ⟨none, .store 4 (.tmp 6) (.const (.bool true)), 0, (ops542.getD 4 default).pos, (ops542.getD 4 default).after, none⟩ := by kernel_rfl
theorem rg542 : List.range ops542.size = [0, 1, 2, 3, 4] := by kernel_rfl
theorem vT87 : varT K.P 87 = some (false, 1) := by kernel_rfl
theorem vT3 : varT K.P 3 = some (false, 1) := by kernel_rfl
theorem vT4 : varT K.P 4 = some (false, 1) := by kernel_rfl
theorem rg541 : List.range ops541.size = [0, 1] := by kernel_rfl
/-- A region that runs in order, in a bare frame. -/
theorem region_bare {nt id : Nat} {ops : Array Oper} {Q : Qx} {ρ : Env} {σ : St} (hok : opsOk nt ops = true) (h : opsW K [] [] ops ops.toList ρ σ Q.n Q.p) : CodeA K nt .bare (.region id ops false) Q.q ρ σ :=
  wpC_sound (nt := nt) K_m (.region id ops false) (.rg [] [] none) false .bare Q ρ σ hok (fun h => by cases h) h
noncomputable def op98 : Oper := match Tryz.f98.body with | some (.seq (.region _ o _) _) => o.getD 0 default | _ => default
theorem body98 : Tryz.f98.body = some (.seq (.region 0 #[⟨some 6, .call { callee := .builtin .recover, args := #[], argTypes := #[] }, 20, op98.pos, #[], none⟩] false) rest98) := by kernel_rfl
theorem name98 : (Tryz.f98.name == "runtime.NumGoroutine") = false := by kernel_rfl
theorem invoke98 (captured : Array Value) (w : World) : (invoke (.fn (.func 98) captured) #[]).run K.P w = .ok (.enter 98 captured) w := by
  have hfn : K.P.funcs[98]? = some Tryz.f98 := Tryz.func98
  have h1 : Tryz.f98.name ≠ "runtime.NumGoroutine" := by simpa using name98
  simp [invoke, callFunc, hfn, h1, body98, Result.andThen, run_program]
theorem hop98 (ev : Operand → Value) (w : World) : (execOp ev ⟨some 6, .call { callee := .builtin .recover, args := #[], argTypes := #[] }, 20, op98.pos, #[], none⟩).run K.P w = .ok .recover w := by
  simp [execOp, Go.resolve, invoke, builtin, Result.andThen]
/-- The results, from the boxes. -/
theorem res54 {g0 g : Gh} {σ : St} {w : World} {ρ : Env} {tmps : Array Value} {a b c : Nat} {x y z : AV} {R : Res → St → Prop} (hle : Gh.Le g0 g) (hs : Sim g σ w) (hr : RepE g ρ tmps)
    (h4 : ρ.get 4 = .box a 0) (h5 : ρ.get 5 = .box b 0) (h6 : ρ.get 6 = .box c 0) (ha : σ.box a = some [x]) (hb : σ.box b = some [y]) (hc : σ.box c = some [z]) (hR : R (.ret (.tup [x, y, z])) σ) :
    LeavesInM Fence.wide 0 K.P Tryz.f54 tmps (postC g0 R) [] .returning w := by
  have hk : resA K.P ρ σ Tryz.f54.results.toList fun vs => R (.ret (tupR vs)) σ := by
    refine resQ_A _ _ ?_
    refine Eq.mp (show (loadRW (some (false, 1)) (ρ.get 4) σ fun x => loadRW (some (false, 1)) (ρ.get 5) σ fun y => loadRW (some (false, 1)) (ρ.get 6) σ fun z => R (.ret (.tup [x, y, z])) σ) = _ by kernel_rfl) ?_
    rw [h4, h5, h6]
    simp only [loadRW, load_box ha, load_box hb, load_box hc, List.drop_zero, headR_cons]
    exact hR
  obtain ⟨v, xs, hrun, hv, hk⟩ := results_run (a := { tmps := tmps, defers := [] }) (fn := Tryz.f54) hs hr hk
  exact ⟨v, hrun, g, σ, _, hle, hs, hv, hk⟩
theorem tried_ok : TriedOK K 136 54 := by
  intro r gf first cap σ R hent h g w vs hs hG ha
  have hl := ha.length
  refine callsIn_of_wp_marks Tryz.func54 body54 trivial ?_
  have henv := args_env [r, .func (.func gf) first cap] vs (Tryz.f54.ntmps - vs.toArray.size) ha
  have hnt : Tryz.f54.ntmps = 10 := by kernel_rfl
  have hsz : (vs.toArray ++ Array.replicate (Tryz.f54.ntmps - vs.toArray.size) undef).size = 10 := by rw [hnt]; simp at hl ⊢; omega
  generalize vs.toArray ++ Array.replicate (Tryz.f54.ntmps - vs.toArray.size) undef = tm0 at henv hsz
  -- three boxes
  have c0 : CodeA K 10 .bare (.region 0 ops540 false) (Qx.q ⟨fun ρ σ' => ∃ a b c, σ.Fresh a ∧ (σ.new a (.box [.nilptr])).Fresh b ∧ ((σ.new a (.box [.nilptr])).new b (.box [.int .i64 0])).Fresh c ∧
      ρ = (((Env.ofArgs [r, .func (.func gf) first cap]).put 4 (.box a 0)).put 5 (.box b 0)).put 6 (.box c 0) ∧ σ' = (((σ.new a (.box [.nilptr])).new b (.box [.int .i64 0])).new c (.box [.bool false])), fun _ _ _ => False, fun _ _ => False, fun _ _ => False⟩)
      (Env.ofArgs [r, .func (.func gf) first cap]) σ := by
    refine region_bare (by kernel_rfl) ?_
    refine Eq.mp (show (∀ a, σ.Fresh a → ∀ b, (σ.new a (.box [.nilptr])).Fresh b → ∀ c, ((σ.new a (.box [.nilptr])).new b (.box [.int .i64 0])).Fresh c →
      (fun (ρ : Env) (σ' : St) => ∃ a b c, σ.Fresh a ∧ (σ.new a (.box [.nilptr])).Fresh b ∧ ((σ.new a (.box [.nilptr])).new b (.box [.int .i64 0])).Fresh c ∧
      ρ = (((Env.ofArgs [r, .func (.func gf) first cap]).put 4 (.box a 0)).put 5 (.box b 0)).put 6 (.box c 0) ∧ σ' = (((σ.new a (.box [.nilptr])).new b (.box [.int .i64 0])).new c (.box [.bool false])))
        ((((Env.ofArgs [r, .func (.func gf) first cap]).put 4 (.box a 0)).put 5 (.box b 0)).put 6 (.box c 0)) (((σ.new a (.box [.nilptr])).new b (.box [.int .i64 0])).new c (.box [.bool false]))) = _ by kernel_rfl) ?_
    exact fun a ha b hb c hc => ⟨a, b, c, ha, hb, hc, rfl, rfl⟩
  refine wpIn_seq (wpIn_mono (c0 g w { tmps := tm0, defers := [] } none hs hG henv hsz trivial) ?_)
  rintro e a1 w1 ⟨n1, g1, σ1, ρ1, ms, d1, m1, l1, s1, r1, q1⟩
  have hms : ms = [] := m1.none rfl
  subst hms
  simp only [List.map_nil, List.nil_append] at d1
  cases e <;> simp only [exQ, Qx.q] at q1
  case panic => obtain ⟨_, _, _, _, hf⟩ := q1; exact hf.elim
  obtain ⟨a, b, c, fa, fb, fc, rfl, rfl⟩ := q1
  have hG1 := hG.mono l1
  -- the deferred call
  refine wpIn_seq (wpIn_region ?_)
  rw [rg541]
  simp only [wpOpsIn, op541_0, op541_1, Region.wanted, if_true]
  have h4 := r1 4; have h5 := r1 5; have h6 := r1 6; have h1 := r1 1
  simp only [Env.put, Env.ofArgs] at h4 h5 h6 h1
  have h4 : Rep g1 (.box a 0) (a1.tmps.getD 4 undef) := h4
  have h5 : Rep g1 (.box b 0) (a1.tmps.getD 5 undef) := h5
  have h6 : Rep g1 (.box c 0) (a1.tmps.getD 6 undef) := h6
  refine ⟨fun _ _ => trivial, ?_⟩
  let fv : Value := .func (.func 98) #[] #[a1.tmps.getD 4 undef, a1.tmps.getD 5 undef, a1.tmps.getD 6 undef]
  have hmk : (Oper.semAt Fence.wide.round a1.eval ⟨some 7, .makeFunc (.func 98) #[] #[.tmp 4, .tmp 5, .tmp 6], 1, (ops541.getD 0 default).pos, #[], none⟩).run K.P w1 = .ok (.value fv) w1 := by
    simp [Oper.semAt, execOp, fv, Act.eval, Fence.wide, Instr.makeFunc, Result.andThen]
  rw [hmk, Oper.uponIn_value]
  have e7 : (a1.put (some 7) fv).eval (.tmp 7) = fv := by
    show (a1.tmps.setIfInBounds 7 fv).getD 7 undef = fv
    simp [n1]
  refine ⟨fun _ _ => trivial, ?_⟩
  have hdef : (Oper.semAt Fence.wide.round (a1.put (some 7) fv).eval ⟨none, .defer { callee := .value (.tmp 7), args := #[], argTypes := #[] }, 0, (ops541.getD 1 default).pos, #[⟨0, .data⟩], none⟩).run K.P w1
      = .ok (.defer { target := .fn (.func 98) #[a1.tmps.getD 4 undef, a1.tmps.getD 5 undef, a1.tmps.getD 6 undef], args := #[] }) w1 := by
    simp [Oper.semAt, execOp, Go.resolve, e7, Fence.wide, Deferred.ofValue, Result.andThen]; simp [fv]
  rw [hdef, Oper.uponIn_defer]
  show (Code.seq (.region 2 ops542 false) .ret).wpIn _ _ _ _ _ _
  let dd : Deferred := { target := .fn (.func 98) #[a1.tmps.getD 4 undef, a1.tmps.getD 5 undef, a1.tmps.getD 6 undef], args := #[] }
  let a2 : Act := { tmps := a1.tmps.setIfInBounds 7 fv, defers := dd :: a1.defers }
  show (Code.seq (.region 2 ops542 false) .ret).wpIn Fence.wide 0 K.P _ a2 w1
  let ρ2 : Env := ((((Env.ofArgs [r, .func (.func gf) first cap]).put 4 (.box a 0)).put 5 (.box b 0)).put 6 (.box c 0)).put 7 .any
  have r2 : RepE g1 ρ2 a2.tmps := r1.put (by rw [n1]; decide) (by simp only [Rep])
  let σ3 : St := ((σ.new a (.box [.nilptr])).new b (.box [.int .i64 0])).new c (.box [.bool false])
  have ab : a ≠ b := fun e => by subst e; simp [St.Fresh, St.new] at fb
  have ac : a ≠ c := fun e => by
    subst e
    have := fc.1
    simp only [St.new, if_true] at this
    split at this <;> cases this
  have bc : b ≠ c := fun e => by subst e; simp [St.Fresh, St.new] at fc
  have n2 : a2.tmps.size = 10 := by show (a1.tmps.setIfInBounds 7 fv).size = 10; simp [n1]
  have d2 : a2.defers = [dd] := by show dd :: a1.defers = _; rw [d1]
  have g4' : a2.tmps.getD 4 undef = a1.tmps.getD 4 undef := by show (a1.tmps.setIfInBounds 7 fv).getD 4 undef = _; simp
  have g5' : a2.tmps.getD 5 undef = a1.tmps.getD 5 undef := by show (a1.tmps.setIfInBounds 7 fv).getD 5 undef = _; simp
  have g6' : a2.tmps.getD 6 undef = a1.tmps.getD 6 undef := by show (a1.tmps.setIfInBounds 7 fv).getD 6 undef = _; simp
  have deferred : ∀ {a3 : Act} {g3 : Gh} {σ4 : St} {w3 : World} {x : AV} {v : Value} {u u' : FrameMode} {Rn : St → Prop}, Gh.Le g1 g3 → a3.defers = [dd] → Sim g3 σ4 w3 → Rep g3 x v → ((u = .returning ∧ v = .nilIface ∧ u' = .returning) ∨ (u = .panicking [{ v, recovered := false }] ∧ u' = .panicking [{ v, recovered := true }])) →
      r98 (.box a 0) (.box b 0) (.box c 0) x Rn σ4 → (∀ g4 σ5 w4, Gh.Le g3 g4 → Sim g4 σ5 w4 → Rn σ5 → LeavesInM Fence.wide 0 K.P Tryz.f54 a3.tmps (postC g R) [] (settle u') w4) →
      LeavesInM Fence.wide 0 K.P Tryz.f54 a3.tmps (postC g R) a3.defers u w3 := by
    intro a3 g3 σ4 w3 x v u u' Rn l3 d3 s3 hx hu hr hk
    rw [d3]
    simp only [LeavesInM]
    have cap98 : RepL g3 [.box a 0, .box b 0, .box c 0] [a1.tmps.getD 4 undef, a1.tmps.getD 5 undef, a1.tmps.getD 6 undef] := by
      simp only [RepL]
      exact ⟨_, _, rfl, h4.mono l3, _, _, rfl, h5.mono l3, _, _, rfl, h6.mono l3, rfl⟩
    refine ⟨by rcases hu with ⟨rfl, _⟩ | ⟨rfl, _⟩ <;> simp, .inr ⟨fun hd => by simp [Fence.wide] at hd, .func 98, _, 98, _, rfl, invoke98 _ _, fun _ _ => trivial, ?_⟩⟩
    have := recCall (C := K) (f := 98) (fn := Tryz.f98) (id := 0) (d := 6) (vs := [a1.tmps.getD 4 undef, a1.tmps.getD 5 undef, a1.tmps.getD 6 undef]) (args := [.box a 0, .box b 0, .box c 0]) (hf := Tryz.func98) (hb := body98) (hres := by kernel_rfl) (hop := hop98) (hd := rfl) (hdn := by decide +kernel) (hg := rfl)
      (hlen := Nat.le_of_ble_eq_true (n := 3) (m := Tryz.f98.ntmps) (by kernel_rfl)) s3 (hG1.mono l3) cap98 hx hu Rn (r98_ok hr)
    refine CallsDIn.mono this ?_
    rintro e u2 w4 ⟨v', rfl, rfl, g4, σ5, l4, s4, hn⟩
    exact hk g4 σ5 w4 l4 s4 hn
  refine wpIn_seq (wpIn_region ?_)
  rw [rg542]
  simp only [wpOpsIn, op542_0, op542_1, op542_2, op542_3, op542_4, Region.wanted, if_true]
  -- the move
  refine op_sound (fr := none) (C := K) (nt := 10) (g := g1) (σ := σ3) (ρ := ρ2) (mu := false) (ds := []) (K := fun x s => x = .func (.func gf) first cap ∧ s = σ3) (Kp := fun _ _ => False) (by rfl) s1 hG1 r2 n2 ?_ ?_ (fun _ _ _ _ _ _ _ _ hf => hf.elim)
  · exact ⟨rfl, rfl⟩
  rintro g2 σ' w2 x v l2 s2 hx ⟨rfl, rfl⟩
  have r3 : RepE g2 (ρ2.put 8 (.func (.func gf) first cap)) (a2.put (some 8) v).tmps := (r2.mono l2).put (by rw [n2]; decide) hx
  have n3 : (a2.put (some 8) v).tmps.size = 10 := by rw [(put_tmps _ _ _).2]; exact n2
  -- the call
  refine op_sound (fr := none) (C := K) (nt := 10) (g := g2) (σ := σ3) (ρ := ρ2.put 8 (.func (.func gf) first cap)) (mu := false) (ds := []) (K := fun x s => triedQ 136 a b c R (.ret x) s) (Kp := fun x s => triedQ 136 a b c R (.panic x) s) (by rfl) s2 (hG1.mono l2) r3 n3 ?_ ?_ ?_
  · show ((fnA K.P (.func (.func gf) first cap) []).wp K σ3 _ _)
    simp only [fnA, hent, if_true, wp_enter, List.append_nil]
    refine (h a b c fa fb fc).mono fun res σ' hres => ?_
    cases res <;> exact hres
  · rintro g3 σ4 w3 x v3 l3 s3 hx3 ⟨hsc, ⟨xa, ba⟩, ⟨xb, bb⟩, ⟨xc, bcx⟩, hR⟩
    have hcv : cellsA x = [x] := by cases x <;> first | rfl | cases hsc
    have hlv : x.lies = true := by cases x <;> first | rfl | cases hsc
    have r4 : RepE g3 ((ρ2.put 8 (.func (.func gf) first cap)).put 9 x) ((a2.put (some 8) v).put (some 9) v3).tmps := (r3.mono l3).put (by rw [n3]; decide) hx3
    have n4 : ((a2.put (some 8) v).put (some 9) v3).tmps.size = 10 := by rw [(put_tmps _ _ _).2]; exact n3
    have hG3 := hG1.mono (l2.trans l3)
    refine op_sound (fr := none) (C := K) (nt := 10) (g := g3) (σ := σ4) (ρ := (ρ2.put 8 (.func (.func gf) first cap)).put 9 x) (mu := false) (ds := []) (K := fun y s => s = σ4.setBox a [x]) (Kp := fun _ _ => False) (by rfl) s3 hG3 r4 n4 ?_ ?_ (fun _ _ _ _ _ _ _ _ hf => hf.elim)
    · rw [← opQ_eq]
      show (storeR (varT K.P 87) (.box a 0) x σ4).wp K σ4 _ _
      rw [vT87, store_box ba]
      simp only [wp_cond, wp_upd, hcv]
      exact ⟨⟨hlv, rfl, by simp⟩, rfl⟩
    rintro g4 _ w4 _ _ l4 s4 _ rfl
    refine op_sound (fr := none) (C := K) (nt := 10) (g := g4) (σ := σ4.setBox a [x]) (ρ := (ρ2.put 8 (.func (.func gf) first cap)).put 9 x) (mu := false) (ds := []) (K := fun y s => s = (σ4.setBox a [x]).setBox b [.int .i64 0]) (Kp := fun _ _ => False) (by rfl) s4 (hG3.mono l4) (r4.mono l4) n4 ?_ ?_ (fun _ _ _ _ _ _ _ _ hf => hf.elim)
    · rw [← opQ_eq]
      show (storeR (varT K.P 3) (.box b 0) (.int .i64 0) (σ4.setBox a [x])).wp K _ _ _
      have : (σ4.setBox a [x]).box b = some [xb] := by simp only [St.setBox]; rw [box_set, if_neg (Ne.symm ab)]; exact bb
      rw [vT3, store_box this]
      simp only [wp_cond, wp_upd]
      exact ⟨by simp, rfl⟩
    rintro g5 _ w5 _ _ l5 s5 _ rfl
    refine op_sound (fr := none) (C := K) (nt := 10) (g := g5) (σ := (σ4.setBox a [x]).setBox b [.int .i64 0]) (ρ := (ρ2.put 8 (.func (.func gf) first cap)).put 9 x) (mu := false) (ds := []) (K := fun y s => s = ((σ4.setBox a [x]).setBox b [.int .i64 0]).setBox c [.bool true]) (Kp := fun _ _ => False) (by rfl) s5 (hG3.mono (l4.trans l5)) (r4.mono (l4.trans l5)) n4 ?_ ?_ (fun _ _ _ _ _ _ _ _ hf => hf.elim)
    · rw [← opQ_eq]
      show (storeR (varT K.P 4) (.box c 0) (.bool true) ((σ4.setBox a [x]).setBox b [.int .i64 0])).wp K _ _ _
      have : ((σ4.setBox a [x]).setBox b [.int .i64 0]).box c = some [xc] := by simp only [St.setBox]; rw [box_set, if_neg (Ne.symm bc), box_set, if_neg (Ne.symm ac)]; exact bcx
      rw [vT4, store_box this]
      simp only [wp_cond, wp_upd]
      exact ⟨by simp, rfl⟩
    rintro g6 _ w6 _ _ l6 s6 _ rfl
    show Code.wpIn Fence.wide 0 K.P .ret _ _ _
    refine wpIn_ret ?_
    have l16 := l2.trans (l3.trans (l4.trans (l5.trans l6)))
    refine deferred (a3 := (a2.put (some 8) v).put (some 9) v3) (x := .niliface) (v := .nilIface) (u := .returning) (u' := .returning) (Rn := fun s => s = ((σ4.setBox a [x]).setBox b [.int .i64 0]).setBox c [.bool true]) l16 d2 s6 (by simp only [Rep]) (.inl ⟨rfl, rfl, rfl⟩) (r98_nil rfl) ?_
    rintro g7 σ7 w7 l7 s7 rfl
    exact res54 (l1.trans (l16.trans l7)) s7 (r4.mono ((l4.trans (l5.trans l6)).trans l7)) rfl rfl rfl (by simp [St.setBox, ac, ab]) (by simp [St.setBox, bc]) (by simp [St.setBox]) hR
  · rintro g3 σ4 w3 x v3 l3 s3 hx3 ⟨at_, rfl, ⟨xa, ka⟩, ⟨xb, kb⟩, ⟨xc, kc⟩, hR⟩
    show LeavesInM Fence.wide 0 K.P Tryz.f54 (a2.put (some 8) v).tmps (postC g R) (a2.put (some 8) v).defers _ w3
    refine deferred (a3 := a2.put (some 8) v) (u := .panicking [{ v := v3, recovered := false }]) (u' := .panicking [{ v := v3, recovered := true }]) (Rn := fun s => ∃ q, σ4.Fresh q ∧ s = ((((σ4.new q (.box [.int .i64 at_])).setBox a [.nilptr]).setBox b [.int .i64 at_]).setBox c [.bool false])) (l2.trans l3) d2 s3 hx3 (.inr ⟨rfl, rfl⟩) (r98_fault ka kb kc fun q hq => ⟨q, hq, rfl⟩) ?_
    rintro g4 σ5 w4 l4 s4 ⟨q, hq, rfl⟩
    exact res54 (l1.trans ((l2.trans l3).trans l4)) s4 ((r3.mono l3).mono l4) rfl rfl rfl (by simp [St.setBox, ac, ab]) (by simp [St.setBox, bc]) (by simp [St.setBox]) (hR q hq)
end Go.Rip
