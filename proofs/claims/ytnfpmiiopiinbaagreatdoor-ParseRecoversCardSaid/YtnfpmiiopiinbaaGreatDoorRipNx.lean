/- Lemmas for the proof: no conditions. -/
import Derived.Test.YtnfpmiiopiinbaaGreatDoorRipZz
import Derived.Test.YtnfpmiiopiinbaaGreatDoorRows
import Derived.LaidSub
import Derived.Lib.LaidTab
import Derived.Test.YtnfpmiiopiinbaaGreatDoorRipC
import Derived.Test.YtnfpmiiopiinbaaGreatDoorRipD
set_option linter.unusedVariables false
set_option linter.unusedSimpArgs false
set_option linter.loopingSimpArgs false
namespace Go.Rip
open Go.Proofs Go.RowKit Go.Proofs.YtnfpmiiopiinbaaGreatDoor
abbrev LD:=Rows.parseReadsRow.laid
def zJ:List Int:=(List.range 256).map λ c=>if c=9\/c=10\/c=11\/c=12\/c=13\/c=32 then 1 else 0
theorem abp {W:World} (h:laidMetH Tryz.prog LD W):Lib.TabIs Tryz.prog W "strings.asciiSpace" .u8 zJ:=by
 have h1:=((laidMetH_iff.1 h).1).filter (λ x=>x.1 == "strings.asciiSpace")
 have e:((LD.filter λ x=>x.2.handleName?.isNone).filter λ x=>x.1 == "strings.asciiSpace")=[("strings.asciiSpace", Lib.tabData .u8 zJ)]:=by kernel_rfl
 rw[e]at h1;exact Lib.tabIs_of_head (g:=0) (t:=235) (e:=5) (n:=256) (by kernel_rfl) (by kernel_rfl) (by kernel_rfl) (by kernel_rfl) (by kernel_rfl) (by kernel_rfl) h1
theorem abq {W:World} (h:laidMetH Tryz.prog LD W):Lib.TabIs Tryz.prog W "internal/strconv.uint64pow10" .u64 Lib.pow10Tab:=by
 have h1:=((laidMetH_iff.1 h).1).filter (λ x=>x.1 == "internal/strconv.uint64pow10")
 have e:((LD.filter λ x=>x.2.handleName?.isNone).filter λ x=>x.1 == "internal/strconv.uint64pow10")=[("internal/strconv.uint64pow10", Lib.tabData .u64 Lib.pow10Tab)]:=by kernel_rfl
 rw[e]at h1;exact Lib.tabIs_of_head (g:=7) (t:=288) (e:=268) (n:=20) (by kernel_rfl) (by kernel_rfl) (by kernel_rfl) (by kernel_rfl) (by kernel_rfl) (by kernel_rfl) h1
def Zw (W:World):Gh:={
 base:=W.heap.size
 w0:=W
 place:=λ _=>none
 bT:=λ q o=>(match W.cell? ⟨q,o,none⟩ with|some u=>if u.oneCell'=true then some u else none|none=>none)
 bL:=λ _=>none
 res:=λ _=>false }
theorem Pure.Zl {f:FuncId} {x:Bool} {args:List AV} {vs:List Value} (hp:Pure K f args (.bool x)) {W:World} (ha:aC (Zw W) args vs) (h0:Lib.TabIs Tryz.prog W "strings.asciiSpace" .u8 zJ) (h7:Lib.TabIs Tryz.prog W "internal/strconv.uint64pow10" .u64 Lib.pow10Tab) :
 Calls Tryz.prog f vs.toArray W λ e w'=>e=.returned (.bool x)/\Below W.heap.size W w':=by
 have z8:Tryz.prog.globalNamed "strings.asciiSpace" = some 0:=by kernel_rfl
 have ZO:Tryz.prog.globalNamed "internal/strconv.uint64pow10" = some 7:=by kernel_rfl
 let g0:Gh:=Zw W;have rj:aY g0 (bK ⟨.e,0⟩) W:={
  below:=Below.refl _ _
  le:=cN _
  bT:=λ q o u hu=>by
   have hu:(match W.cell? ⟨q,o,none⟩ with|some u=>if u.oneCell'=true then some u else none|none=>none)=some u:=hu
   split at hu
   . rename_i v hv;split at hu
     . rename_i h1; cases hu; exact⟨hv,h1⟩
     . cases hu
   . cases hu
  bL:=λ q es c hu=>by cases hu
  live:=λ b x hb=>by cases hb
  apart:=λ b b' x x' p p' hb=>by cases hb
  res:=λ r hr=>by cases hr
  fin:=⟨0,λ n hn=>by cases hn; rfl,λ _ _=>rfl⟩ }
 have KN:fQ K g0:=by
  refine⟨λ i=>?_,λ i cs hi=>?_⟩
  . have tab:∀ (name:String) (b:Nat) (k:IntKind) (zs:List Int),Tryz.prog.globalNamed name=some b->Lib.TabIs Tryz.prog W name k zs->av g0 (.ca (zs.map (.int k))) (.pointer (some ⟨b,0,none⟩)):=λ name b k zs hg ht=>by
     unfold Lib.TabIs World.var? at ht;rw[hg]at ht;simp only[av];refine⟨b,0,zs.map (.int k),rfl,λ j u hu=>?_,?_⟩
     . have qu:(match W.heap[b]? with|some (Obj.cells cs _ _)=>some cs|_=>none)=some (zs.map λ z=>Value.int k z).toArray:=ht
       split at qu
       . rename_i cs t fr hb;cases qu;rw[jB,nr]at hu;obtain⟨z,hz,rfl⟩:=hu;have pG:W.cell? ⟨b,0+j,none⟩=some (.int k z):=by
          unfold World.cell?;simp[hb,hz]
         show (match W.cell? ⟨b,0+j,none⟩ with|some u=>if u.oneCell'=true then some u else none|none=>none)=_
         rw[pG]; rfl
       . cases qu
     . clear ht hg
       induction zs with
       | nil=>simp[aC]
       | cons z zs ih=>simp only[dY,aC,av]; exact⟨_,_,rfl,rfl,ih⟩
    show av g0 (if i=0 then .ca tg else if i=7 then .ca tP else .any) _
    split
    . rename_i hi; subst hi;have e:tg=zJ.map (.int .u8):=by kernel_rfl
      rw[e]; exact tab _ _ _ _ z8 h0
    . split
      . rename_i hi; subst hi;have e:tP=Lib.pow10Tab.map (.int .u64):=by kernel_rfl
        rw[e]; exact tab _ _ _ _ ZO h7
      . simp only[av]
  . have iv:(if i=7 then some (Lib.pow10Tab.map λ z=>Value.int .u64 z).toArray else none)=some cs:=hi
    split at iv
    . rename_i h; subst h;cases iv;have ht:=h7;unfold Lib.TabIs World.var? at ht;rw[ZO]at ht;have qu:(match W.heap[7]? with|some (Obj.cells cs _ _)=>some cs|_=>none)=some (Lib.pow10Tab.map λ z=>Value.int .u64 z).toArray:=ht
      split at qu
      . rename_i cs t fr hb;cases qu;exact⟨(jl.1 hb).1,t,fr,hb⟩
      . cases qu
    . cases iv
 have hc:=hp (bK ⟨.e,0⟩) (λ r _=>r=.ret (.bool x)) rfl g0 W vs rj KN ha;refine (callsIn_wide.1 hc).mono ?_;rintro e w' hq;cases e with
 | panicked ch=>obtain⟨g',ad,y,v,_,_,_,_,hz⟩:=hq; cases hz
 | outgrown=>exact hq.elim
 | returned v =>
   obtain⟨g',ad,y,h1,h2,h3,hz⟩:=hq;cases hz;simp only[av]at h3;refine⟨by rw[h3],?_⟩;have:=h2.below;rw[h1.base,h1.w0]at this;exact this
end Go.Rip
