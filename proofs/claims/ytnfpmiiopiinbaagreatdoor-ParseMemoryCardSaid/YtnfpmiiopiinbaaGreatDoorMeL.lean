import Derived.Test.YtnfpmiiopiinbaaGreatDoorCards
import Derived.OpenShut
import Derived.Test.YtnfpmiiopiinbaaGreatDoorMeT
import Derived.Test.YtnfpmiiopiinbaaGreatDoorFaMemoryJ
import Derived.Test.YtnfpmiiopiinbaaGreatDoorL5h1
import Derived.Test.YtnfpmiiopiinbaaGreatDoorL5h2
import Derived.Test.YtnfpmiiopiinbaaGreatDoorL5h3
import Derived.Test.YtnfpmiiopiinbaaGreatDoorL5h4
import Derived.Test.YtnfpmiiopiinbaaGreatDoorMev
import Derived.Test.YtnfpmiiopiinbaaGreatDoorLt
import Derived.Test.YtnfpmiiopiinbaaGreatDoorYk
namespace Go.Proofs.YtnfpmiiopiinbaaGreatDoor.parseMemory
open Go.ChangeShapes Go.WideShapes Go.ChangeAt Go.RowKit
set_option maxRecDepth 1000000
theorem rest_ok (os:Os):((((laid.laidWorld os).forCall (λ _ _=>0) ⟨#[],#[.string ⟨#[]⟩,.agg #[.slice none 0 0]],[]⟩).heap.toList.drop Tryz.prog.globals.size).take ((begin Tryz.prog (λ _ _=>0) default).world.heap.size-Tryz.prog.globals.size) =
 (begin Tryz.prog (λ _ _=>0) default).world.heap.toList.drop Tryz.prog.globals.size):=by kernel_rfl
theorem in_ok (os:Os):Input.okWideB Tryz.prog ((laid.laidWorld os).forCall (λ _ _=>0) ⟨#[],#[.string ⟨#[]⟩,.agg #[.slice none 0 0]],[]⟩) 5 ⟨#[],#[.string ⟨#[]⟩,.agg #[.slice none 0 0]],[]⟩=true:=by kernel_rfl
theorem reads (os:Os) {H:Type} (enc:TypeId×Value->H):∃ places,DataW.whole enc Tryz.prog ((laid.laidWorld os).forCall (λ _ _=>0) ⟨#[],#[.string ⟨#[]⟩,.agg #[.slice none 0 0]],[]⟩).memory Tryz.f5.params.toList Rows.parseMemorySpec.vars false (#[.string ⟨#[]⟩,.agg #[.slice none 0 0]]:Array Value).toList 8=some ([.lit (.string []),.agg [.nil]],[],places) :=
 ⟨[],by kernel_rfl⟩
theorem knobs:ownKnob Tryz.prog.godebug=none:=by kernel_rfl
end Go.Proofs.YtnfpmiiopiinbaaGreatDoor.parseMemory
namespace Go.Proofs.YtnfpmiiopiinbaaGreatDoor.parseMemory
open Go.ChangeShapes Go.WideShapes Go.ChangeAt Go.RowKit
set_option maxRecDepth 1000000
theorem laid_met (os:Os) (args:Array Value):laidMet Tryz.prog Rows.parseMemoryRow.laid ((laid.laidWorld os).forCall (λ _ _=>0) ⟨#[],args,[]⟩).memory :=
 (LaidIn.of_run (List.range 60) 8 (laid.h1 os args) (laid.h2 os args) (laid.h3 os args) (laid.h4 os args)).met
theorem contract (H:Type) (enc:TypeId×Value->H) (W:World) (base:Nat) (args:Array Value) (ds gs:List (DataW H)) (before:List MemPlace)
 (hval:∀ (j:Nat) t v,Tryz.f5.params[j]?=some t->args[j]?=some v->Value.okWide Tryz.prog W .any base t v)
 (hW:DataW.Whole enc Tryz.prog Tryz.f5.params.toList Rows.parseMemorySpec.vars false W args.toList ds gs before) (hL:laidMetH Tryz.prog Rows.parseMemoryRow.laid W) :
 Calls Tryz.prog 5 args W λ e W'=>∃ v,e=.returned v/\Rows.parseMemorySpec.post enc Tryz.prog Tryz.f5 false true false false W args v W':=by
 have hW':=hW;obtain⟨p,q,hA0,hV,rfl,hfz,hnd⟩:=hW;have hA:DataW.TrodAll enc Tryz.prog W 0 (λ _=>true) true Tryz.f5.params.toList args.toList ds p:=hA0;rw[Tryz.params5]at hA hval;obtain⟨v0,vs0,d0,ds0,p0,q0,hargs,rfl,rfl,h0,r0⟩:=trodAll_cons hA;obtain⟨v1,vs1,d1,ds1,p1,q1,rfl,rfl,rfl,h1,r1⟩:=trodAll_cons r0;obtain⟨rfl,rfl,rfl⟩:=trodAll_nil r1;obtain rfl:args=#[v0,v1]:=by cases args; simp_all
 obtain⟨rfl,rfl⟩:=trodVars_none hV;obtain⟨x0,rfl,rfl,rfl,hx0⟩:=ChangeMaps.open_string Tryz.underlying9 (hval 0 9 v0 rfl rfl) h0;obtain⟨x1,l1,hx1,hr1⟩:=Go.Rip.U8 (hval 1 25 v1 rfl rfl) h1;refine (Go.Rip.Pure.ai2 (Go.Rip.OL x0.data.toList hx1) (vs:=[.string x0,v1]) (by simp only[Go.Rip.aJ]; exact⟨_,_,rfl,(by simp[Go.Rip.aB]),_,_,rfl,hr1,rfl⟩) (Go.Rip.akA hL) (Go.Rip.akB hL)).mono λ e W' ⟨he,bel⟩=>?_;subst he;exact⟨_,rfl,_,_,_,[],_,[],hW',trodAll_mk1 (shut_bool Tryz.underlying4 _),Go.Rip.CA bel (by kernel_rfl) hA0 (λ p hp=>hW'.lt p (List.mem_append_left _ hp)),rfl,bel.frame _,λ h=>by cases h⟩
theorem lifted (os:Os) (started:os.Started) (H:Type) (enc:TypeId×Value->H) (F:Stop.Interp) :
 ReturnsInHanded {} Tryz.checked os 5 .any ((OpenSpec.ofChange Rows.parseMemorySpec).preRow enc Tryz.prog Tryz.f5 Rows.parseMemoryRow.domain false Rows.parseMemoryRow.laid) (((OpenSpec.ofChange Rows.parseMemorySpec).at F).post enc Tryz.prog Tryz.f5 false true false false):=by
 obtain⟨places,hx⟩:=reads os enc;refine returnsInHanded_of_row (C:=Tryz.checked) (s:=OpenSpec.ofChange Rows.parseMemorySpec) knobs started (by kernel_rfl) Tryz.func5
  (witness_row_atRef (enc:=enc) (C:=Tryz.checked) false (laid.laidWorld os) #[.string ⟨#[]⟩,.agg #[.slice none 0 0]] rfl (vars_ok os) (rest_ok os) (in_ok os)
    (OpenSpec.preRow_of_cond 8 hx (by kernel_rfl) (λ k hk=>by cases hk) (by kernel_rfl) (laid_met os _))) ?_
 intro W base args ds gs before hval hW _ _ _ hL _ _;exact contract H enc W base args ds gs before hval hW hL
theorem said:Rows.ParseMemorySaid :=
 OpenClaim.holds_of_cond 5 Tryz.f5 rfl rfl rfl rfl rfl rfl rfl ⟨rfl,rfl,rfl,rfl,rfl⟩ rfl rfl rfl rfl rfl (by kernel_rfl) Tryz.func5 facts
  (of_decide_eq_true (by kernel_rfl)) (by unfold Func.isWrapper; first|(rw[if_pos (by decide +kernel)]; kernel_rfl)|(rw[if_neg (by decide +kernel)]; exact⟨rfl,rfl⟩))
  (λ os started H enc _ F=>by rw[OpenClaim.pre_eq_preRow]; exact lifted os started H enc F)
end Go.Proofs.YtnfpmiiopiinbaaGreatDoor.parseMemory
