import Derived.Test.YtnfpmiiopiinbaaGreatDoorRows
import Derived.LaidSub
import Derived.Test.YtnfpmiiopiinbaaGreatDoorD
set_option linter.all false
namespace Go.Rip
open Go.Proofs Go.RowKit Go.Proofs.YtnfpmiiopiinbaaGreatDoor
abbrev LD:=Rows.parseReadsRow.laid
def Gu:List Int:=(List.range 256).map λc=>if c=9\/c=10\/c=11\/c=12\/c=13\/c=32 then 1 else 0
def akA{W:World}(h:laidMetH Tryz.prog LD W):Lib.TabIs Tryz.prog W "strings.asciiSpace" .u8 Gu:=by
 have h1:=((laidMetH_iff.1 h).1).filter (λx=>x.1 == "strings.asciiSpace")
 have e:((LD.filter λx=>x.2.handleName?.isNone).filter λx=>x.1 == "strings.asciiSpace")=[("strings.asciiSpace", Lib.tabData .u8 Gu)]:=by kernel_rfl
 rw[e]at h1;exact Lib.tabIs_of_head (g:=0) (t:=235) (e:=5) (n:=256) (by kernel_rfl) (by kernel_rfl) (by kernel_rfl) (by kernel_rfl) (by kernel_rfl) (by kernel_rfl) h1
def akB{W:World}(h:laidMetH Tryz.prog LD W):Lib.TabIs Tryz.prog W "internal/strconv.uint64pow10" .u64 Lib.pow10Tab:=by
 have h1:=((laidMetH_iff.1 h).1).filter (λx=>x.1 == "internal/strconv.uint64pow10")
 have e:((LD.filter λx=>x.2.handleName?.isNone).filter λx=>x.1 == "internal/strconv.uint64pow10")=[("internal/strconv.uint64pow10", Lib.tabData .u64 Lib.pow10Tab)]:=by kernel_rfl
 rw[e]at h1;exact Lib.tabIs_of_head (g:=7) (t:=288) (e:=268) (n:=20) (by kernel_rfl) (by kernel_rfl) (by kernel_rfl) (by kernel_rfl) (by kernel_rfl) (by kernel_rfl) h1
def TK(W:World):Gh:={
 base:=W.heap.size
 w0:=W
 place:=λ_=>none
 du:=λq o=>(match W.cell? ⟨q,o,none⟩ with|some u=>if u.oneCell'=true then some u else none|none=>none)
 cY:=λ_=>none
 res:=λ_=>false }
def Pure.ai2{f:FuncId}{x:Bool}{args:List AV}{vs:List Value}(hp:Pure K f args (.bool x)){W:World}(ha:aJ (TK W) args vs)(h0:Lib.TabIs Tryz.prog W "strings.asciiSpace" .u8 Gu) (h7:Lib.TabIs Tryz.prog W "internal/strconv.uint64pow10" .u64 Lib.pow10Tab) :
 Calls Tryz.prog f vs.toArray W λe w'=>e=.returned (.bool x)/\Below W.heap.size W w':=by
 have T0:Tryz.prog.globalNamed "strings.asciiSpace" = some 0:=by kernel_rfl
 have PG:Tryz.prog.globalNamed "internal/strconv.uint64pow10" = some 7:=by kernel_rfl
 let g0:Gh:=TK W;have wS:bT g0 (cj ⟨.e,0⟩) W:={
  below:=Below.refl _ _
  le:=da _
  du:=λq o u hu=>by
   have hu:(match W.cell? ⟨q,o,none⟩ with|some u=>if u.oneCell'=true then some u else none|none=>none)=some u:=hu
   split at hu
   . rename_i v hv;split at hu
     . rename_i h1;cases hu;exact⟨hv,h1⟩
     . cases hu
   . cases hu
  cY:=λq es c hu=>by cases hu
  live:=λb x hb=>by cases hb
  apart:=λb b' x x' p p' hb=>by cases hb
  res:=λr hr=>by cases hr
  fin:=⟨0,λn hn=>by cases hn;rfl,λ_ _=>rfl⟩ }
 have TO:kz K g0:=by
  refine⟨λi=>?_,λi cs hi=>?_⟩
  . have tab:∀(name:String)(b:Nat)(k:IntKind)(zs:List Int),Tryz.prog.globalNamed name=some b->Lib.TabIs Tryz.prog W name k zs->aB g0 (.dJ (zs.map (.int k))) (.pointer (some ⟨b,0,none⟩)):=λname b k zs hg ht=>by
     unfold Lib.TabIs World.var? at ht;rw[hg]at ht;simp only[aB];refine⟨b,0,zs.map (.int k),rfl,λj u hu=>?_,?_⟩
     . have qJ:(match W.heap[b]? with|some (Obj.cells cs _ _)=>some cs|_=>none)=some (zs.map λz=>Value.int k z).toArray:=ht
       split at qJ
       . rename_i cs t fr hb;cases qJ;rw[po,so]at hu;obtain⟨z,hz,rfl⟩:=hu;have sP:W.cell? ⟨b,0+j,none⟩=some (.int k z):=by
          unfold World.cell?;simp[hb,hz]
         show (match W.cell? ⟨b,0+j,none⟩ with|some u=>if u.oneCell'=true then some u else none|none=>none)=_
         rw[sP];rfl
       . cases qJ
     . clear ht hg
       induction zs with
       | nil=>simp[aJ]
       | cons z zs ih=>simp only[fh,aJ,aB];exact⟨_,_,rfl,rfl,ih⟩
    show aB g0 (if i=0 then .dJ Aa else if i=7 then .dJ AQ else .any) _
    split
    . rename_i hi;subst hi;have e:Aa=Gu.map (.int .u8):=by kernel_rfl
      rw[e];exact tab _ _ _ _ T0 h0
    . split
      . rename_i hi;subst hi;have e:AQ=Lib.pow10Tab.map (.int .u64):=by kernel_rfl
        rw[e];exact tab _ _ _ _ PG h7
      . simp only[aB]
  . have mE:(if i=7 then some (Lib.pow10Tab.map λz=>Value.int .u64 z).toArray else none)=some cs:=hi
    split at mE
    . rename_i h;subst h;cases mE;have ht:=h7;unfold Lib.TabIs World.var? at ht;rw[PG]at ht;have qJ:(match W.heap[7]? with|some (Obj.cells cs _ _)=>some cs|_=>none)=some (Lib.pow10Tab.map λz=>Value.int .u64 z).toArray:=ht
      split at qJ
      . rename_i cs t fr hb;cases qJ;exact⟨(nN.1 hb).1,t,fr,hb⟩
      . cases qJ
    . cases mE
 have hc:=hp (cj ⟨.e,0⟩) (λr _=>r=.ret (.bool x)) rfl g0 W vs wS TO ha;refine (callsIn_wide.1 hc).mono ?_;rintro e w' hq;cases e with
 | panicked ch=>obtain⟨g',aa,y,v,_,_,_,_,hz⟩:=hq;cases hz
 | outgrown=>exact hq.elim
 | returned v =>
   obtain⟨g',aa,y,h1,h2,h3,hz⟩:=hq;cases hz;simp only[aB]at h3;refine⟨by rw[h3],?_⟩;have:=h2.below;rw[h1.base,h1.w0]at this;exact this
end Go.Rip
