/- Lemmas for the proof: no conditions. -/
import Derived.Test.YtnfpmiiopiinbaaGreatDoorRipL5
import Derived.Test.YtnfpmiiopiinbaaGreatDoorCards
import Derived.Test.YtnfpmiiopiinbaaGreatDoorTie
import Derived.OpenShut
import Derived.Below
import Derived.Test.YtnfpmiiopiinbaaGreatDoorRipFaPrintsJ
import Derived.Test.YtnfpmiiopiinbaaGreatDoorRipL5h1
import Derived.Test.YtnfpmiiopiinbaaGreatDoorRipL5h2
import Derived.Test.YtnfpmiiopiinbaaGreatDoorRipL5h3
import Derived.Test.YtnfpmiiopiinbaaGreatDoorRipL5h4
import Derived.Test.YtnfpmiiopiinbaaGreatDoorRipPrv
import Derived.Test.YtnfpmiiopiinbaaGreatDoorRipNx
import Derived.Test.YtnfpmiiopiinbaaGreatDoorRipLt
import Derived.Test.YtnfpmiiopiinbaaGreatDoorRipYk
namespace Go.Proofs.YtnfpmiiopiinbaaGreatDoor.parsePrints
open Go.ChangeShapes Go.WideShapes Go.ChangeAt Go.RowKit
set_option maxRecDepth 1000000
theorem rest_ok (os:Os):((((laid.laidWorld os).forCall (fun _ _=>0) ⟨#[],#[.agg #[.slice none 0 0],.int .i64 0],[]⟩).heap.toList.drop Tryz.prog.globals.size).take ((begin Tryz.prog (fun _ _=>0) default).world.heap.size - Tryz.prog.globals.size) =
 (begin Tryz.prog (fun _ _=>0) default).world.heap.toList.drop Tryz.prog.globals.size):=by kernel_rfl
theorem in_ok (os:Os):Input.okWideB Tryz.prog ((laid.laidWorld os).forCall (fun _ _=>0) ⟨#[],#[.agg #[.slice none 0 0],.int .i64 0],[]⟩) 4 ⟨#[],#[.agg #[.slice none 0 0],.int .i64 0],[]⟩=true:=by kernel_rfl
theorem reads (os:Os) {H:Type} (enc:TypeId × Value->H):∃ places,DataW.whole enc Tryz.prog ((laid.laidWorld os).forCall (fun _ _=>0) ⟨#[],#[.agg #[.slice none 0 0],.int .i64 0],[]⟩).memory Tryz.f4.params.toList Rows.parsePrintsSpec.vars false (#[.agg #[.slice none 0 0],.int .i64 0]:Array Value).toList 8=some ([.agg [.nil],.lit (.int .i64 0)],[],places) :=
 ⟨[],by kernel_rfl⟩
theorem knobs:ownKnob Tryz.prog.godebug=none:=by kernel_rfl
end Go.Proofs.YtnfpmiiopiinbaaGreatDoor.parsePrints
namespace Go.Proofs.YtnfpmiiopiinbaaGreatDoor.parsePrints
open Go.ChangeShapes Go.WideShapes Go.ChangeAt Go.RowKit
set_option maxRecDepth 1000000
theorem laid_met (os:Os) (args:Array Value):laidMet Tryz.prog Rows.parsePrintsRow.laid ((laid.laidWorld os).forCall (fun _ _=>0) ⟨#[],args,[]⟩).memory :=
 (LaidIn.of_run (List.range 60) 8 (laid.h1 os args) (laid.h2 os args) (laid.h3 os args) (laid.h4 os args)).met
theorem contract (H:Type) (enc:TypeId × Value->H) (W:World) (base:Nat) (args:Array Value) (ds gs:List (DataW H)) (before:List MemPlace)
 (hval:∀ (j:Nat) t v,Tryz.f4.params[j]?=some t->args[j]?=some v->Value.okWide Tryz.prog W .any base t v)
 (hW:DataW.Whole enc Tryz.prog Tryz.f4.params.toList Rows.parsePrintsSpec.vars false W args.toList ds gs before) (hL:laidMetH Tryz.prog Rows.parsePrintsRow.laid W) :
 Calls Tryz.prog 4 args W fun e W'=>∃ v,e=.returned v/\Rows.parsePrintsSpec.post enc Tryz.prog Tryz.f4 false true false false W args v W':=by
 have hW':=hW
 obtain ⟨p,q,hA0,hV,rfl,hfz,hnd⟩:=hW
 have hA:DataW.TrodAll enc Tryz.prog W 0 (fun _=>true) true Tryz.f4.params.toList args.toList ds p:=hA0
 rw [Tryz.params4] at hA hval
 obtain ⟨v0,vs0,d0,ds0,p0,q0,hargs,rfl,rfl,h0,r0⟩:=trodAll_cons hA
 obtain ⟨v1,vs1,d1,ds1,p1,q1,rfl,rfl,rfl,h1,r1⟩:=trodAll_cons r0
 obtain ⟨rfl,rfl,rfl⟩:=trodAll_nil r1
 obtain rfl:args=#[v0,v1]:=by cases args; simp_all
 obtain ⟨rfl,rfl⟩:=trodVars_none hV
 obtain ⟨x0,l0,hx0,hr0⟩:=Go.Rip.OG (hval 0 25 v0 rfl rfl) h0
 obtain ⟨x1,rfl,rfl,rfl,hx1⟩:=open_int Tryz.underlying3 (hval 1 3 v1 rfl rfl) h1
 refine (Go.Rip.Pure.adM (Go.Rip.Jt hx0 x1) (vs:=[v0,.int .i64 x1]) (by simp only [Go.Rip.aH]; exact ⟨_,_,rfl,hr0,_,_,rfl,(by simp [Go.Rip.aE]),rfl⟩) (Go.Rip.afg hL) (Go.Rip.afh hL)).mono fun e W' ⟨he,bel⟩=>?_
 subst he
 exact ⟨_,rfl,_,_,_,[],_,[],hW',trodAll_mk1 (shut_bool Tryz.underlying4 _),Go.Rip.yp bel (by kernel_rfl) hA0 (fun p hp=>hW'.lt p (List.mem_append_left _ hp)),rfl,bel.frame _,fun h=>by cases h⟩
theorem lifted (os:Os) (started:os.Started) (H:Type) (enc:TypeId × Value->H) (F:Stop.Interp) :
 ReturnsInHanded {} Tryz.checked os 4 .any ((OpenSpec.ofChange Rows.parsePrintsSpec).preRow enc Tryz.prog Tryz.f4 Rows.parsePrintsRow.domain false Rows.parsePrintsRow.laid) (((OpenSpec.ofChange Rows.parsePrintsSpec).at F).post enc Tryz.prog Tryz.f4 false true false false):=by
 obtain ⟨places,hx⟩:=reads os enc
 refine returnsInHanded_of_row (C:=Tryz.checked) (s:=OpenSpec.ofChange Rows.parsePrintsSpec) knobs started (by kernel_rfl) Tryz.func4
  (witness_row_atRef (enc:=enc) (C:=Tryz.checked) false (laid.laidWorld os) #[.agg #[.slice none 0 0],.int .i64 0] rfl (vars_ok os) (rest_ok os) (in_ok os)
    (OpenSpec.preRow_of_cond 8 hx (by kernel_rfl) (fun k hk=>by cases hk) (by kernel_rfl) (laid_met os _))) ?_
 intro W base args ds gs before hval hW _ _ _ hL _ _
 exact contract H enc W base args ds gs before hval hW hL
theorem said:Rows.ParsePrintsSaid :=
 OpenClaim.holds_of_cond 4 Tryz.f4 rfl rfl rfl rfl rfl rfl rfl ⟨rfl,rfl,rfl,rfl,rfl⟩ rfl rfl rfl rfl rfl (by kernel_rfl) Tryz.func4 facts
  (of_decide_eq_true (by kernel_rfl)) (by unfold Func.isWrapper; first | (rw [if_pos (by decide +kernel)]; kernel_rfl) | (rw [if_neg (by decide +kernel)]; exact ⟨rfl,rfl⟩))
  (fun os started H enc _ F=>by rw [OpenClaim.pre_eq_preRow]; exact lifted os started H enc F)
end Go.Proofs.YtnfpmiiopiinbaaGreatDoor.parsePrints
