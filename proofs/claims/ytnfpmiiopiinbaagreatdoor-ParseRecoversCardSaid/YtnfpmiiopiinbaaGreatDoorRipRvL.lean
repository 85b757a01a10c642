/- Lemmas for the proof: no conditions. -/
import Derived.Test.YtnfpmiiopiinbaaGreatDoorRipL5
import Derived.Test.YtnfpmiiopiinbaaGreatDoorCards
import Derived.Test.YtnfpmiiopiinbaaGreatDoorTie
import Derived.OpenShut
import Derived.Below
import Derived.Test.YtnfpmiiopiinbaaGreatDoorRipFaRecoversJ
import Derived.Test.YtnfpmiiopiinbaaGreatDoorRipL5h1
import Derived.Test.YtnfpmiiopiinbaaGreatDoorRipL5h2
import Derived.Test.YtnfpmiiopiinbaaGreatDoorRipL5h3
import Derived.Test.YtnfpmiiopiinbaaGreatDoorRipL5h4
import Derived.Test.YtnfpmiiopiinbaaGreatDoorRipRvv
import Derived.Test.YtnfpmiiopiinbaaGreatDoorRipNx
import Derived.Test.YtnfpmiiopiinbaaGreatDoorRipYl
namespace Go.Proofs.YtnfpmiiopiinbaaGreatDoor.parseRecovers
open Go.ChangeShapes Go.WideShapes Go.ChangeAt Go.RowKit
set_option maxRecDepth 1000000
theorem rest_ok (os:Os):((((laid.laidWorld os).forCall (λ _ _=>0) ⟨#[],#[.string ⟨#[]⟩,.string ⟨#[]⟩,.string ⟨#[]⟩],[]⟩).heap.toList.drop Tryz.prog.globals.size).take ((begin Tryz.prog (λ _ _=>0) default).world.heap.size-Tryz.prog.globals.size) =
 (begin Tryz.prog (λ _ _=>0) default).world.heap.toList.drop Tryz.prog.globals.size):=by kernel_rfl
theorem in_ok (os:Os):Input.okWideB Tryz.prog ((laid.laidWorld os).forCall (λ _ _=>0) ⟨#[],#[.string ⟨#[]⟩,.string ⟨#[]⟩,.string ⟨#[]⟩],[]⟩) 7 ⟨#[],#[.string ⟨#[]⟩,.string ⟨#[]⟩,.string ⟨#[]⟩],[]⟩=true:=by kernel_rfl
theorem reads (os:Os) {H:Type} (enc:TypeId×Value->H):∃ places,DataW.whole enc Tryz.prog ((laid.laidWorld os).forCall (λ _ _=>0) ⟨#[],#[.string ⟨#[]⟩,.string ⟨#[]⟩,.string ⟨#[]⟩],[]⟩).memory Tryz.f7.params.toList Rows.parseRecoversSpec.vars false (#[.string ⟨#[]⟩,.string ⟨#[]⟩,.string ⟨#[]⟩]:Array Value).toList 8=some ([.lit (.string []),.lit (.string []),.lit (.string [])],[],places) :=
 ⟨[],by kernel_rfl⟩
theorem knobs:ownKnob Tryz.prog.godebug=none:=by kernel_rfl
end Go.Proofs.YtnfpmiiopiinbaaGreatDoor.parseRecovers
namespace Go.Proofs.YtnfpmiiopiinbaaGreatDoor.parseRecovers
open Go.ChangeShapes Go.WideShapes Go.ChangeAt Go.RowKit
set_option maxRecDepth 1000000
theorem laid_met (os:Os) (args:Array Value):laidMet Tryz.prog Rows.parseRecoversRow.laid ((laid.laidWorld os).forCall (λ _ _=>0) ⟨#[],args,[]⟩).memory :=
 (LaidIn.of_run (List.range 60) 8 (laid.h1 os args) (laid.h2 os args) (laid.h3 os args) (laid.h4 os args)).met
theorem contract (H:Type) (enc:TypeId×Value->H) (W:World) (base:Nat) (args:Array Value) (ds gs:List (DataW H)) (before:List MemPlace)
 (hval:∀ (j:Nat) t v,Tryz.f7.params[j]?=some t->args[j]?=some v->Value.okWide Tryz.prog W .any base t v)
 (hW:DataW.Whole enc Tryz.prog Tryz.f7.params.toList Rows.parseRecoversSpec.vars false W args.toList ds gs before) (hL:laidMetH Tryz.prog Rows.parseRecoversRow.laid W) (hsz:(DataW.weightsEach Tryz.prog (Tryz.f7.params.toList++(OpenSpec.ofChange Rows.parseRecoversSpec).bare.plain.varTypes Tryz.prog) (ds++gs)).all (·<=reachBytes)=true) :
 Calls Tryz.prog 7 args W λ e W'=>∃ v,e=.returned v/\Rows.parseRecoversSpec.post enc Tryz.prog Tryz.f7 false true false false W args v W':=by
 have hW':=hW;obtain⟨p,q,hA0,hV,rfl,hfz,hnd⟩:=hW;have hA:DataW.TrodAll enc Tryz.prog W 0 (λ _=>true) true Tryz.f7.params.toList args.toList ds p:=hA0;rw[Tryz.params7]at hA hval hsz;obtain⟨v0,vs0,d0,ds0,p0,q0,hargs,rfl,rfl,h0,r0⟩:=trodAll_cons hA;obtain⟨v1,vs1,d1,ds1,p1,q1,rfl,rfl,rfl,h1,r1⟩:=trodAll_cons r0;obtain⟨v2,vs2,d2,ds2,p2,q2,rfl,rfl,rfl,h2,r2⟩:=trodAll_cons r1;obtain⟨rfl,rfl,rfl⟩:=trodAll_nil r2;obtain rfl:args=#[v0,v1,v2]:=by cases args; simp_all
 obtain⟨rfl,rfl⟩:=trodVars_none hV;obtain⟨x0,rfl,rfl,rfl,hx0⟩:=ChangeMaps.open_string Tryz.underlying9 (hval 0 9 v0 rfl rfl) h0;obtain⟨x1,rfl,rfl,rfl,hx1⟩:=ChangeMaps.open_string Tryz.underlying9 (hval 1 9 v1 rfl rfl) h1;obtain⟨x2,rfl,rfl,rfl,hx2⟩:=ChangeMaps.open_string Tryz.underlying9 (hval 2 9 v2 rfl rfl) h2;have hb0:x0.data.toList.length<=140737488355328:=Nat.le_trans (of_decide_eq_true (List.all_eq_true.1 hsz x0.data.toList.length (by simp[DataW.weightsEach,DataW.weights]))) (by decide);have hb1:x1.data.toList.length<=140737488355328:=Nat.le_trans (of_decide_eq_true (List.all_eq_true.1 hsz x1.data.toList.length (by simp[DataW.weightsEach,DataW.weights]))) (by decide);have hb2:x2.data.toList.length<=140737488355328:=Nat.le_trans (of_decide_eq_true (List.all_eq_true.1 hsz x2.data.toList.length (by simp[DataW.weightsEach,DataW.weights]))) (by decide);clear hA0;refine (Go.Rip.Pure.Zl (Go.Rip.De x0.data.toList x1.data.toList x2.data.toList hb0 hb1 hb2) (vs:=[.string x0,.string x1,.string x2]) (by simp[Go.Rip.aC,Go.Rip.av]) (Go.Rip.abp hL) (Go.Rip.abq hL)).mono λ e W' ⟨he,bel⟩=>?_;subst he;exact⟨_,rfl,_,_,_,[],_,[],hW',trodAll_mk1 (shut_bool Tryz.underlying4 _),trodAll_cons_mk (ChangeMaps.shut_string Tryz.underlying9 hx0) (trodAll_cons_mk (ChangeMaps.shut_string Tryz.underlying9 hx1) (trodAll_cons_mk (ChangeMaps.shut_string Tryz.underlying9 hx2) trodAll_mk0)),rfl,bel.frame _,λ h=>by cases h⟩
theorem lifted (os:Os) (started:os.Started) (H:Type) (enc:TypeId×Value->H) (F:Stop.Interp) :
 ReturnsInHanded {} Tryz.checked os 7 .any ((OpenSpec.ofChange Rows.parseRecoversSpec).preRow enc Tryz.prog Tryz.f7 Rows.parseRecoversRow.domain false Rows.parseRecoversRow.laid) (((OpenSpec.ofChange Rows.parseRecoversSpec).at F).post enc Tryz.prog Tryz.f7 false true false false):=by
 obtain⟨places,hx⟩:=reads os enc;refine returnsInHanded_of_row (C:=Tryz.checked) (s:=OpenSpec.ofChange Rows.parseRecoversSpec) knobs started (by kernel_rfl) Tryz.func7
  (witness_row_atRef (enc:=enc) (C:=Tryz.checked) false (laid.laidWorld os) #[.string ⟨#[]⟩,.string ⟨#[]⟩,.string ⟨#[]⟩] rfl (vars_ok os) (rest_ok os) (in_ok os)
    (OpenSpec.preRow_of_cond 8 hx (by kernel_rfl) (λ k hk=>by cases hk) (by kernel_rfl) (laid_met os _))) ?_
 intro W base args ds gs before hval hW _ _ hsz hL _ _;exact contract H enc W base args ds gs before hval hW hL hsz
theorem said:Rows.ParseRecoversSaid :=
 OpenClaim.holds_of_cond 7 Tryz.f7 rfl rfl rfl rfl rfl rfl rfl ⟨rfl,rfl,rfl,rfl,rfl⟩ rfl rfl rfl rfl rfl (by kernel_rfl) Tryz.func7 facts
  (of_decide_eq_true (by kernel_rfl)) (by unfold Func.isWrapper; first|(rw[if_pos (by decide +kernel)]; kernel_rfl)|(rw[if_neg (by decide +kernel)]; exact⟨rfl,rfl⟩))
  (λ os started H enc _ F=>by rw[OpenClaim.pre_eq_preRow]; exact lifted os started H enc F)
end Go.Proofs.YtnfpmiiopiinbaaGreatDoor.parseRecovers
