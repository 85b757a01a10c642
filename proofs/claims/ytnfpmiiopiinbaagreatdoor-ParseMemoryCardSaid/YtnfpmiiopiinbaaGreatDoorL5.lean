import Derived.Test.YtnfpmiiopiinbaaGreatDoorRows
import Derived.WalkKit
import Derived.ProofKit
import Derived.Lib.LaidIn
import Derived.Deep.DeepHandedRow
import Derived.Deep.DeepWitnessRowRef
namespace Go.Proofs.YtnfpmiiopiinbaaGreatDoor.laid
open Go.ChangeShapes Go.WideShapes Go.ChangeAt Go.RowKit
set_option maxRecDepth 1000000
def cells1:DataW Unit->List Value
 | .agg l=>l.map fun|.lit (.int k n)=>Value.int k n|_=>undef
 | _=>[]
def cells2:DataW Unit->List Value
 | .agg l=>l.flatMap cells1
 | _=>[]
def ranges:List Value:=[9,13,1,32,133,101,160,5760,5600,8192,8202,1,8232,8233,1,8239,8287,48,12288,12288,1].map λ n=>.int .u16 n
noncomputable def laidWorld (os:Os):World :=
 let N:=(World.settled Tryz.prog os).heap.size;let w0:=World.holding Tryz.prog os ⟨#[.cells #[.string ⟨#[105,110,118,97,108,105,100,32,115,121,110,116,97,120]⟩] 281,.cells #[.string ⟨#[118,97,108,117,101,32,111,117,116,32,111,102,32,114,97,110,103,101]⟩] 281,
  .cells #[.slice (some ⟨N+3,0,none⟩) 7 7,.slice none 0 0,.int .i64 2] 261,.cells ranges.toArray 263],#[],[]⟩
 let put (h:Array Obj) (g:Nat) (cs:Array Value):Array Obj:=h.modify g fun
  | .cells _ t frozen=>.cells cs t frozen
  | o=>o
 let h0:=put w0.heap 0 (cells1 Rows.laid_strings_asciiSpace).toArray;let h2:=put h0 2 #[.pointer (some ⟨N+2,0,none⟩)];let h3:=put h2 3 (cells1 Rows.laid_unicode_utf8_first).toArray;let h4:=put h3 4 (cells2 Rows.laid_unicode_utf8_acceptRanges).toArray;let h5:=put h4 5 #[.iface 279 (.pointer (some ⟨N,0,none⟩))];let h6:=put h5 6 #[.iface 279 (.pointer (some ⟨N+1,0,none⟩))];let h7:=put h6 7 (cells1 Rows.laid_internal_strconv_uint64pow10).toArray;let h8:=put h7 8 (cells1 Rows.laid_math_bits_deBruijn32tab).toArray;let h9:=put h8 9 (cells1 Rows.laid_math_bits_deBruijn64tab).toArray
 { w0 with heap:=h9 }
end Go.Proofs.YtnfpmiiopiinbaaGreatDoor.laid
