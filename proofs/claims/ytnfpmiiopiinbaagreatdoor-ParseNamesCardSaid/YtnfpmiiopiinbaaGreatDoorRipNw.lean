/- Lemmas for the proof that ParseNames returns true: no conditions. -/
import Derived.Test.YtnfpmiiopiinbaaGreatDoorRipF
import Derived.Test.YtnfpmiiopiinbaaGreatDoorRows
import Derived.LaidSub
import Derived.Lib.LaidTab
set_option linter.unusedVariables false
namespace Go.Rip
open Go.Proofs Go.RowKit Go.Proofs.YtnfpmiiopiinbaaGreatDoor
def asciiZ : List Int := (List.range 256).map fun c => if c = 9 ∨ c = 10 ∨ c = 11 ∨ c = 12 ∨ c = 13 ∨ c = 32 then 1 else 0
theorem tab0 {W : World} (h : laidMetH Tryz.prog Rows.parseNamesRow.laid W) : Lib.TabIs Tryz.prog W "strings.asciiSpace" .u8 asciiZ := by
  have h1 := ((laidMetH_iff.1 h).1).filter (fun x => x.1 == "strings.asciiSpace")
  have e : ((Rows.parseNamesRow.laid.filter fun x => x.2.handleName?.isNone).filter fun x => x.1 == "strings.asciiSpace") = [("strings.asciiSpace", Lib.tabData .u8 asciiZ)] := by kernel_rfl
  rw [e] at h1
  exact Lib.tabIs_of_head (g := 0) (t := 235) (e := 5) (n := 256) (by kernel_rfl) (by kernel_rfl) (by kernel_rfl) (by kernel_rfl) (by kernel_rfl) (by kernel_rfl) h1
theorem tab7 {W : World} (h : laidMetH Tryz.prog Rows.parseNamesRow.laid W) : Lib.TabIs Tryz.prog W "internal/strconv.uint64pow10" .u64 Lib.pow10Tab := by
  have h1 := ((laidMetH_iff.1 h).1).filter (fun x => x.1 == "internal/strconv.uint64pow10")
  have e : ((Rows.parseNamesRow.laid.filter fun x => x.2.handleName?.isNone).filter fun x => x.1 == "internal/strconv.uint64pow10") = [("internal/strconv.uint64pow10", Lib.tabData .u64 Lib.pow10Tab)] := by kernel_rfl
  rw [e] at h1
  exact Lib.tabIs_of_head (g := 7) (t := 288) (e := 268) (n := 20) (by kernel_rfl) (by kernel_rfl) (by kernel_rfl) (by kernel_rfl) (by kernel_rfl) (by kernel_rfl) h1
/-- What a fact of a closed call says of any world in which the two tables stand. -/
theorem Pure.walk {f : FuncId} {x : Bool} (hp : Pure K f [] (.bool x)) {W : World} (h0 : Lib.TabIs Tryz.prog W "strings.asciiSpace" .u8 asciiZ) (h7 : Lib.TabIs Tryz.prog W "internal/strconv.uint64pow10" .u64 Lib.pow10Tab) :
    Calls Tryz.prog f #[] W fun e w' => e = .returned (.bool x) ∧ Below W.heap.size W w' := by
  have hg0 : Tryz.prog.globalNamed "strings.asciiSpace" = some 0 := by kernel_rfl
  have hg7 : Tryz.prog.globalNamed "internal/strconv.uint64pow10" = some 7 := by kernel_rfl
  let g0 : Gh := {
    base := W.heap.size
    w0 := W
    place := fun _ => none
    imm := fun q o => (match W.cell? ⟨q, o, none⟩ with | some u => if u.oneCell' = true then some u else none | none => none)
    imap := fun _ => none
    res := fun _ => false }
  have hs0 : Sim g0 (stOf ⟨.e, 0⟩) W := {
    below := Below.refl _ _
    le := Nat.le_refl _
    imm := fun q o u hu => by
      have hu : (match W.cell? ⟨q, o, none⟩ with | some u => if u.oneCell' = true then some u else none | none => none) = some u := hu
      split at hu
      · rename_i v hv
        split at hu
        · rename_i h1; cases hu; exact ⟨hv, h1⟩
        · cases hu
      · cases hu
    imap := fun q es c hu => by cases hu
    live := fun b x hb => by cases hb
    apart := fun b b' x x' p p' hb => by cases hb
    res := fun r hr => by cases hr
    fin := ⟨0, fun n hn => by cases hn; rfl, fun _ _ => rfl⟩ }
  have hG0 : GlobOK K g0 := by
    refine ⟨fun i => ?_, fun i cs hi => ?_⟩
    · have tab : ∀ (name : String) (b : Nat) (k : IntKind) (zs : List Int), Tryz.prog.globalNamed name = some b → Lib.TabIs Tryz.prog W name k zs → Rep g0 (.eptr (zs.map (.int k))) (.pointer (some ⟨b, 0, none⟩)) := fun name b k zs hg ht => by
        unfold Lib.TabIs World.var? at ht
        rw [hg] at ht
        simp only [Rep]
        refine ⟨b, 0, zs.map (.int k), rfl, fun j u hu => ?_, ?_⟩
        · have ht' : (match W.heap[b]? with | some (Obj.cells cs _ _) => some cs | _ => none) = some (zs.map fun z => Value.int k z).toArray := ht
          split at ht'
          · rename_i cs t fr hb
            cases ht'
            rw [List.getElem?_map, Option.map_eq_some_iff] at hu
            obtain ⟨z, hz, rfl⟩ := hu
            have hcell : W.cell? ⟨b, 0 + j, none⟩ = some (.int k z) := by
              unfold World.cell?
              simp [hb, hz]
            show (match W.cell? ⟨b, 0 + j, none⟩ with | some u => if u.oneCell' = true then some u else none | none => none) = _
            rw [hcell]; rfl
          · cases ht'
        · clear ht hg
          induction zs with
          | nil => simp [RepL]
          | cons z zs ih => simp only [List.map_cons, RepL, Rep]; exact ⟨_, _, rfl, rfl, ih⟩
      show Rep g0 (if i = 0 then .eptr asciiL else if i = 7 then .eptr pow10L else .any) _
      split
      · rename_i hi; subst hi
        have e : asciiL = asciiZ.map (.int .u8) := by kernel_rfl
        rw [e]; exact tab _ _ _ _ hg0 h0
      · split
        · rename_i hi; subst hi
          have e : pow10L = Lib.pow10Tab.map (.int .u64) := by kernel_rfl
          rw [e]; exact tab _ _ _ _ hg7 h7
        · simp only [Rep]
    · have hi' : (if i = 7 then some (Lib.pow10Tab.map fun z => Value.int .u64 z).toArray else none) = some cs := hi
      split at hi'
      · rename_i h; subst h
        cases hi'
        have ht := h7
        unfold Lib.TabIs World.var? at ht
        rw [hg7] at ht
        have ht' : (match W.heap[7]? with | some (Obj.cells cs _ _) => some cs | _ => none) = some (Lib.pow10Tab.map fun z => Value.int .u64 z).toArray := ht
        split at ht'
        · rename_i cs t fr hb
          cases ht'
          exact ⟨(Array.getElem?_eq_some_iff.1 hb).1, t, fr, hb⟩
        · cases ht'
      · cases hi'
  have hc := hp (stOf ⟨.e, 0⟩) (fun r _ => r = .ret (.bool x)) rfl g0 W [] hs0 hG0 (by simp [RepL])
  refine (callsIn_wide.1 hc).mono ?_
  rintro e w' hq
  cases e with
  | panicked ch => obtain ⟨g', σ', y, v, _, _, _, _, hz⟩ := hq; cases hz
  | outgrown => exact hq.elim
  | returned v =>
    obtain ⟨g', σ', y, h1, h2, h3, hz⟩ := hq
    cases hz
    simp only [Rep] at h3
    refine ⟨by rw [h3], ?_⟩
    have := h2.below
    rw [h1.base, h1.w0] at this
    exact this
end Go.Rip
