/- Lemmas for the proof: no conditions. -/
import Derived.Test.YtnfpmiiopiinbaaGreatDoorRipL5
import Derived.Test.YtnfpmiiopiinbaaGreatDoorCards
import Derived.Test.YtnfpmiiopiinbaaGreatDoorTie
import Derived.OpenShut
import Derived.Below
import Derived.Test.YtnfpmiiopiinbaaGreatDoorRipFaItemsJ
import Derived.Test.YtnfpmiiopiinbaaGreatDoorRipL5h1
import Derived.Test.YtnfpmiiopiinbaaGreatDoorRipL5h2
import Derived.Test.YtnfpmiiopiinbaaGreatDoorRipL5h3
import Derived.Test.YtnfpmiiopiinbaaGreatDoorRipL5h4
import Derived.Test.YtnfpmiiopiinbaaGreatDoorRipItv
import Derived.Test.YtnfpmiiopiinbaaGreatDoorRipNx
import Derived.Test.YtnfpmiiopiinbaaGreatDoorRipLt
import Derived.Test.YtnfpmiiopiinbaaGreatDoorRipYi
namespace Go.Proofs.YtnfpmiiopiinbaaGreatDoor.parseItems
open Go.ChangeShapes Go.WideShapes Go.ChangeAt Go.RowKit
set_option maxRecDepth 1000000
theorem rest_ok (os:Os):((((laid.laidWorld os).forCall (fun _ _=>0) ⟨#[],#[.agg #[.slice none 0 0]],[]⟩).heap.toList.drop Tryz.prog.globals.size).take ((begin Tryz.prog (fun _ _=>0) default).world.heap.size - Tryz.prog.globals.size) =
 (begin Tryz.prog (fun _ _=>0) default).world.heap.toList.drop Tryz.prog.globals.size):=by kernel_rfl
theorem in_ok (os:Os):Input.okWideB Tryz.prog ((laid.laidWorld os).forCall (fun _ _=>0) ⟨#[],#[.agg #[.slice none 0 0]],[]⟩) 9 ⟨#[],#[.agg #[.slice none 0 0]],[]⟩=true:=by kernel_rfl
theorem reads (os:Os) {H:Type} (enc:TypeId × Value->H):∃ places,DataW.whole enc Tryz.prog ((laid.laidWorld os).forCall (fun _ _=>0) ⟨#[],#[.agg #[.slice none 0 0]],[]⟩).memory Tryz.f9.params.toList Rows.parseItemsSpec.vars false (#[.agg #[.slice none 0 0]]:Array Value).toList 8=some ([.agg [.nil]],[],places) :=
 ⟨[],by kernel_rfl⟩
theorem knobs:ownKnob Tryz.prog.godebug=none:=by kernel_rfl
end Go.Proofs.YtnfpmiiopiinbaaGreatDoor.parseItems
namespace Go.Proofs.YtnfpmiiopiinbaaGreatDoor.parseItems
open Go.ChangeShapes Go.WideShapes Go.ChangeAt Go.RowKit
set_option maxRecDepth 1000000
theorem laid_met (os:Os) (args:Array Value):laidMet Tryz.prog Rows.parseItemsRow.laid ((laid.laidWorld os).forCall (fun _ _=>0) ⟨#[],args,[]⟩).memory :=
 (LaidIn.of_run (List.range 60) 8 (laid.h1 os args) (laid.h2 os args) (laid.h3 os args) (laid.h4 os args)).met
theorem contract (H:Type) (enc:TypeId × Value->H) (W:World) (base:Nat) (args:Array Value) (ds gs:List (DataW H)) (before:List MemPlace)
 (hval:∀ (j:Nat) t v,Tryz.f9.params[j]?=some t->args[j]?=some v->Value.okWide Tryz.prog W .any base t v)
 (hW:DataW.Whole enc Tryz.prog Tryz.f9.params.toList Rows.parseItemsSpec.vars false W args.toList ds gs before) (hL:laidMetH Tryz.prog Rows.parseItemsRow.laid W) :
 Calls Tryz.prog 9 args W fun e W'=>∃ v,e=.returned v/\Rows.parseItemsSpec.post enc Tryz.prog Tryz.f9 false true false false W args v W':=by
 have hW':=hW
 obtain ⟨p,q,hA0,hV,rfl,hfz,hnd⟩:=hW
 have hA:DataW.TrodAll enc Tryz.prog W 0 (fun _=>true) true Tryz.f9.params.toList args.toList ds p:=hA0
 rw [Tryz.params9] at hA hval
 obtain ⟨v0,vs0,d0,ds0,p0,q0,hargs,rfl,rfl,h0,r0⟩:=trodAll_cons hA
 obtain ⟨rfl,rfl,rfl⟩:=trodAll_nil r0
 obtain rfl:args=#[v0]:=by cases args; simp_all
 obtain ⟨rfl,rfl⟩:=trodVars_none hV
 obtain ⟨x0,l0,hx0,hr0⟩:=Go.Rip.Nj (hval 0 25 v0 rfl rfl) h0
 refine (Go.Rip.Pure.acp (Go.Rip.Kc hx0) (vs:=[v0]) (by simp only [Go.Rip.az]; exact ⟨_,_,rfl,hr0,rfl⟩) (Go.Rip.ad0 hL) (Go.Rip.ad1 hL)).mono fun e W' ⟨he,bel⟩=>?_
 subst he
 exact ⟨_,rfl,_,_,_,[],_,[],hW',trodAll_mk1 (shut_bool Tryz.underlying4 _),Go.Rip.wW bel (by kernel_rfl) hA0 (fun p hp=>hW'.lt p (List.mem_append_left _ hp)),rfl,bel.frame _,fun h=>by cases h⟩
theorem lifted (os:Os) (started:os.Started) (H:Type) (enc:TypeId × Value->H) (F:Stop.Interp) :
 ReturnsInHanded {} Tryz.checked os 9 .any ((OpenSpec.ofChange Rows.parseItemsSpec).preRow enc Tryz.prog Tryz.f9 Rows.parseItemsRow.domain false Rows.parseItemsRow.laid) (((OpenSpec.ofChange Rows.parseItemsSpec).at F).post enc Tryz.prog Tryz.f9 false true false false):=by
 obtain ⟨places,hx⟩:=reads os enc
 refine returnsInHanded_of_row (C:=Tryz.checked) (s:=OpenSpec.ofChange Rows.parseItemsSpec) knobs started (by kernel_rfl) Tryz.func9
  (witness_row_atRef (enc:=enc) (C:=Tryz.checked) false (laid.laidWorld os) #[.agg #[.slice none 0 0]] rfl (vars_ok os) (rest_ok os) (in_ok os)
    (OpenSpec.preRow_of_cond 8 hx (by kernel_rfl) (fun k hk=>by cases hk) (by kernel_rfl) (laid_met os _))) ?_
 intro W base args ds gs before hval hW _ _ _ hL _ _
 exact contract H enc W base args ds gs before hval hW hL
theorem said:Rows.ParseItemsSaid :=
 OpenClaim.holds_of_cond 9 Tryz.f9 rfl rfl rfl rfl rfl rfl rfl ⟨rfl,rfl,rfl,rfl,rfl⟩ rfl rfl rfl rfl rfl (by kernel_rfl) Tryz.func9 facts
  (of_decide_eq_true (by kernel_rfl)) (by unfold Func.isWrapper; first | (rw [if_pos (by decide +kernel)]; kernel_rfl) | (rw [if_neg (by decide +kernel)]; exact ⟨rfl,rfl⟩))
  (fun os started H enc _ F=>by rw [OpenClaim.pre_eq_preRow]; exact lifted os started H enc F)
end Go.Proofs.YtnfpmiiopiinbaaGreatDoor.parseItems
