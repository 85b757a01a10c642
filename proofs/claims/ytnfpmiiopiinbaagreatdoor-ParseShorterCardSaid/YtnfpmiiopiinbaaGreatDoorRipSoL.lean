/- Lemmas for the proof: no conditions. -/
import Derived.Test.YtnfpmiiopiinbaaGreatDoorRipL5
import Derived.Test.YtnfpmiiopiinbaaGreatDoorCards
import Derived.Test.YtnfpmiiopiinbaaGreatDoorTie
import Derived.OpenShut
import Derived.Below
import Derived.Test.YtnfpmiiopiinbaaGreatDoorRipFaShorterJ
import Derived.Test.YtnfpmiiopiinbaaGreatDoorRipL5h1
import Derived.Test.YtnfpmiiopiinbaaGreatDoorRipL5h2
import Derived.Test.YtnfpmiiopiinbaaGreatDoorRipL5h3
import Derived.Test.YtnfpmiiopiinbaaGreatDoorRipL5h4
import Derived.Test.YtnfpmiiopiinbaaGreatDoorRipSov
import Derived.Test.YtnfpmiiopiinbaaGreatDoorRipNx
import Derived.Test.YtnfpmiiopiinbaaGreatDoorRipYl
namespace Go.Proofs.YtnfpmiiopiinbaaGreatDoor.parseShorter
open Go.ChangeShapes Go.WideShapes Go.ChangeAt Go.RowKit
set_option maxRecDepth 1000000
theorem rest_ok (os:Os):((((laid.laidWorld os).forCall (fun _ _=>0) ⟨#[],#[.string ⟨#[]⟩],[]⟩).heap.toList.drop Tryz.prog.globals.size).take ((begin Tryz.prog (fun _ _=>0) default).world.heap.size - Tryz.prog.globals.size) =
 (begin Tryz.prog (fun _ _=>0) default).world.heap.toList.drop Tryz.prog.globals.size):=by kernel_rfl
theorem in_ok (os:Os):Input.okWideB Tryz.prog ((laid.laidWorld os).forCall (fun _ _=>0) ⟨#[],#[.string ⟨#[]⟩],[]⟩) 6 ⟨#[],#[.string ⟨#[]⟩],[]⟩=true:=by kernel_rfl
theorem reads (os:Os) {H:Type} (enc:TypeId × Value->H):∃ places,DataW.whole enc Tryz.prog ((laid.laidWorld os).forCall (fun _ _=>0) ⟨#[],#[.string ⟨#[]⟩],[]⟩).memory Tryz.f6.params.toList Rows.parseShorterSpec.vars false (#[.string ⟨#[]⟩]:Array Value).toList 8=some ([.lit (.string [])],[],places) :=
 ⟨[],by kernel_rfl⟩
theorem knobs:ownKnob Tryz.prog.godebug=none:=by kernel_rfl
end Go.Proofs.YtnfpmiiopiinbaaGreatDoor.parseShorter
namespace Go.Proofs.YtnfpmiiopiinbaaGreatDoor.parseShorter
open Go.ChangeShapes Go.WideShapes Go.ChangeAt Go.RowKit
set_option maxRecDepth 1000000
theorem laid_met (os:Os) (args:Array Value):laidMet Tryz.prog Rows.parseShorterRow.laid ((laid.laidWorld os).forCall (fun _ _=>0) ⟨#[],args,[]⟩).memory :=
 (LaidIn.of_run (List.range 60) 8 (laid.h1 os args) (laid.h2 os args) (laid.h3 os args) (laid.h4 os args)).met
theorem contract (H:Type) (enc:TypeId × Value->H) (W:World) (base:Nat) (args:Array Value) (ds gs:List (DataW H)) (before:List MemPlace)
 (hval:∀ (j:Nat) t v,Tryz.f6.params[j]?=some t->args[j]?=some v->Value.okWide Tryz.prog W .any base t v)
 (hW:DataW.Whole enc Tryz.prog Tryz.f6.params.toList Rows.parseShorterSpec.vars false W args.toList ds gs before) (hL:laidMetH Tryz.prog Rows.parseShorterRow.laid W) :
 Calls Tryz.prog 6 args W fun e W'=>∃ v,e=.returned v/\Rows.parseShorterSpec.post enc Tryz.prog Tryz.f6 false true false false W args v W':=by
 have hW':=hW
 obtain ⟨p,q,hA0,hV,rfl,hfz,hnd⟩:=hW
 have hA:DataW.TrodAll enc Tryz.prog W 0 (fun _=>true) true Tryz.f6.params.toList args.toList ds p:=hA0
 rw [Tryz.params6] at hA hval
 obtain ⟨v0,vs0,d0,ds0,p0,q0,hargs,rfl,rfl,h0,r0⟩:=trodAll_cons hA
 obtain ⟨rfl,rfl,rfl⟩:=trodAll_nil r0
 obtain rfl:args=#[v0]:=by cases args; simp_all
 obtain ⟨rfl,rfl⟩:=trodVars_none hV
 obtain ⟨x0,rfl,rfl,rfl,hx0⟩:=ChangeMaps.open_string Tryz.underlying9 (hval 0 9 v0 rfl rfl) h0
 clear hA0
 refine (Go.Rip.Pure.aeR (Go.Rip.JF x0.data.toList) (vs:=[.string x0]) (by simp [Go.Rip.aD,Go.Rip.ay]) (Go.Rip.agd hL) (Go.Rip.age hL)).mono fun e W' ⟨he,bel⟩=>?_
 subst he
 exact ⟨_,rfl,_,_,_,[],_,[],hW',trodAll_mk1 (shut_bool Tryz.underlying4 _),trodAll_cons_mk (ChangeMaps.shut_string Tryz.underlying9 hx0) trodAll_mk0,rfl,bel.frame _,fun h=>by cases h⟩
theorem lifted (os:Os) (started:os.Started) (H:Type) (enc:TypeId × Value->H) (F:Stop.Interp) :
 ReturnsInHanded {} Tryz.checked os 6 .any ((OpenSpec.ofChange Rows.parseShorterSpec).preRow enc Tryz.prog Tryz.f6 Rows.parseShorterRow.domain false Rows.parseShorterRow.laid) (((OpenSpec.ofChange Rows.parseShorterSpec).at F).post enc Tryz.prog Tryz.f6 false true false false):=by
 obtain ⟨places,hx⟩:=reads os enc
 refine returnsInHanded_of_row (C:=Tryz.checked) (s:=OpenSpec.ofChange Rows.parseShorterSpec) knobs started (by kernel_rfl) Tryz.func6
  (witness_row_atRef (enc:=enc) (C:=Tryz.checked) false (laid.laidWorld os) #[.string ⟨#[]⟩] rfl (vars_ok os) (rest_ok os) (in_ok os)
    (OpenSpec.preRow_of_cond 8 hx (by kernel_rfl) (fun k hk=>by cases hk) (by kernel_rfl) (laid_met os _))) ?_
 intro W base args ds gs before hval hW _ _ _ hL _ _
 exact contract H enc W base args ds gs before hval hW hL
theorem said:Rows.ParseShorterSaid :=
 OpenClaim.holds_of_cond 6 Tryz.f6 rfl rfl rfl rfl rfl rfl rfl ⟨rfl,rfl,rfl,rfl,rfl⟩ rfl rfl rfl rfl rfl (by kernel_rfl) Tryz.func6 facts
  (of_decide_eq_true (by kernel_rfl)) (by unfold Func.isWrapper; first | (rw [if_pos (by decide +kernel)]; kernel_rfl) | (rw [if_neg (by decide +kernel)]; exact ⟨rfl,rfl⟩))
  (fun os started H enc _ F=>by rw [OpenClaim.pre_eq_preRow]; exact lifted os started H enc F)
end Go.Proofs.YtnfpmiiopiinbaaGreatDoor.parseShorter
