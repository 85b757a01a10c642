import Derived.Test.YtnfpmiiopiinbaaGreatDoorYb
import Derived.Test.YtnfpmiiopiinbaaGreatDoorAw
set_option linter.all false
namespace Go.Rip
open Go.Proofs Go.RowKit
def SH{l:List Nd}{i:Nat}{s:Tre}(h:dP l i s):iY l i=s.flat.length:=by
 obtain⟨x,hx,_,hs,_⟩:=h.oS;rw[ZL hx];omega
def seen(l:List Nd)(i:Nat)(ks:List Nat)(k:Nat):Nat:=if (k≠0/\upF l k (k-1)<i)\/k∈ks then 1 else 0
def ints_at{v5:AV}{ks:List Nat}{c k:Nat}(hv:dz v5 ks.length (dW ks))(hx:ks[c]?=some k):∃r,∀e,bJ (some (e,1)) none v5 (bv (c:Nat))=.cond (0<=(c:Int)/\(c:Int)<ks.length) (.val (.dJ (bv (k:Nat)::r))):=by
 have aA:=(dw.1 hx).1;obtain⟨r,hr⟩:=yf hx;refine⟨r,λe=>?_⟩;obtain⟨cc,rfl,nx⟩:=hv.at (sz:=1) (e:=e) aA;rw[nx,Nat.mul_one,hr]
def aki{v5:AV}{ks:List Nat}{c k e:Nat}{U:St}{kq:AV->Prop}(hv:dz v5 ks.length (dW ks))(hx:ks[c]?=some k)(h:kq (bv (k:Nat))) :
 bC K (bJ (some (e,1)) none v5 (bv (c:Nat))) λp=>bC K (bj (some (false,1)) p U) kq:=by
 have aA:=(dw.1 hx).1;obtain⟨r,hr⟩:=ints_at hv hx;rw[hr,jB,ao,oA,gg];exact⟨d6,h⟩
def aiG{v5:AV}{ks:List Nat}{c k e:Nat}{U:St}{kq:AV->AV->Prop}(hv:dz v5 ks.length (dW ks))(hx:ks[c]?=some k)(h:∀L,kq (.dJ L) (bv (k:Nat))) :
 bC K (bJ (some (e,1)) none v5 (bv (c:Nat))) λp=>bC K (bj (some (false,1)) p U) (kq p):=by
 have aA:=(dw.1 hx).1;obtain⟨r,hr⟩:=ints_at hv hx;rw[hr,jB,ao,oA,gg];exact⟨d6,h _⟩
end Go.Rip
