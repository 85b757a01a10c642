import Derived.Test.YtnfpmiiopiinbaaGreatDoorD
set_option linter.all false
namespace Go.Rip
open Go.Proofs
abbrev Mw:=(bi)->St->Prop
def zbs:List Nat->Nat
 | []=>0
 | i::l=>2 ^ i+zbs l
def au(k:Nat)(r d:List Nat):Row:=⟨2 ^ k,zbs r,zbs d⟩
def jU:Nat->Nat->List Nat->List (Bool×Nat)
 | 0,_,_=>[]
 | n+1,i,[]=>(true,i)::jU n (i+1) []
 | n+1,i,j::f=>match Nat.beq i j with
   | true=>(false,i)::jU n (i+1) f
   | false=>(true,i)::jU n (i+1) (j::f)
def Ea(g:AV)(e m:Nat)(v i:AV)(k:AV->Mw)(R:bi)(U:St):Prop:=aI K (cq g true) (bJ (some (e,m)) none v i) (λq=>aI K (cq g true) (bj (some (false,1)) q U) (λv=>k v R U))
def fR(g:AV)(n:Nat)(p:AV)(k:AV->Mw)(R:bi)(U:St):Prop:=aI K (cq g true) (bu (some n) p) (λq=>aI K (cq g true) (bj (some (false,1)) q U) (λv=>k v R U))
def QP(g:AV)(m:Nat)(p:AV)(k:AV->Mw)(R:bi)(U:St):Prop:=aI K (cq g true) (bj (some (true,m)) p U) (λv=>k v R U)
def eh(g:AV)(o:BinOp)(x y:AV)(k:AV->Mw)(R:bi)(U:St):Prop:=aI K (cq g true) (bU o (BT.mk false false false none false) true x y) (λv=>k v R U)
def qk(g:AV)(o:BinOp)(x y:AV)(k:AV->Mw)(R:bi)(U:St):Prop:=aI K (cq g true) (bU o (BT.mk false false false none false) false x y) (λv=>k v R U)
def lM(g:AV)(f:FuncId)(l:List AV)(k:AV->Mw)(R:bi)(U:St):Prop:=aI K (cq g true) (aW.enter f l) (λv=>k v R U)
def yG(g:AV)(n:Nat)(p:AV)(k:AV->Mw)(R:bi)(U:St):Prop:=aI K (cq g true) (bu (some n) p) (λv=>k v R U)
def se(g:AV)(e m:Nat)(v i:AV)(k:AV->Mw)(R:bi)(U:St):Prop:=aI K (cq g true) (bJ (some (e,m)) none v i) (λv=>k v R U)
def zgl(g:AV)(p:AV)(k:AV->Mw)(R:bi)(U:St):Prop:=aI K (cq g true) (bj (some (false,1)) p U) (λv=>k v R U)
def zu(g:AV)(x:AV)(k:AV->Mw)(R:bi)(U:St):Prop:=aI K (cq g true) (dK (some false) x) (λv=>k v R U)
def tQ(g:AV)(x:AV)(k:AV->Mw)(R:bi)(U:St):Prop:=aI K (cq g true) (jf x) (λv=>k v R U)
def Be(g:AV)(p:AV)(u:St)(k:AV->Mw)(R:bi)(U:St):Prop:=aI K (cq g true) (bj (some (false,1)) p u) (λv=>k v R U)
def zgp(g:AV)(x y z:AV)(k:AV->Mw)(R:bi)(U:St):Prop:=aI K (cq g true) (fP x y z) (λv=>k v R U)
def zgt(g:AV)(x:AV)(k:AV->Mw)(R:bi)(U:St):Prop:=aI K (cq g true) (yx .not x) (λv=>k v R U)
def cU(g:AV)(x:AV)(k:AV->Mw)(R:bi)(U:St):Prop:=aI K (cq g true) (aW.val x) (λv=>k v R U)
def ql(g:AV)(x:aW)(k:AV->Mw)(R:bi)(U:St):Prop:=aI K (cq g true) (x) (λv=>k v R U)
def lN(g:AV)(n:Nat)(p:AV)(k:AV->Mw)(R:bi)(U:St):Prop:=aI K (cq g false) (bu (some n) p) (λq=>aI K (cq g false) (bj (some (false,1)) q U) (λv=>k v R U))
def CC(g:AV)(m:Nat)(p:AV)(k:AV->Mw)(R:bi)(U:St):Prop:=aI K (cq g false) (bj (some (true,m)) p U) (λv=>k v R U)
def jr(g:AV)(o:BinOp)(x y:AV)(k:AV->Mw)(R:bi)(U:St):Prop:=aI K (cq g false) (bU o (BT.mk false false false none false) true x y) (λv=>k v R U)
def Bf(g:AV)(o:BinOp)(x y:AV)(k:AV->Mw)(R:bi)(U:St):Prop:=aI K (cq g false) (bU o (BT.mk false false false none false) false x y) (λv=>k v R U)
def wW(g:AV)(f:FuncId)(l:List AV)(k:AV->Mw)(R:bi)(U:St):Prop:=aI K (cq g false) (aW.enter f l) (λv=>k v R U)
def QR(g:AV)(n:Nat)(p:AV)(k:AV->Mw)(R:bi)(U:St):Prop:=aI K (cq g false) (bu (some n) p) (λv=>k v R U)
def CD(g:AV)(e m:Nat)(v i:AV)(k:AV->Mw)(R:bi)(U:St):Prop:=aI K (cq g false) (bJ (some (e,m)) none v i) (λv=>k v R U)
def zhl(g:AV)(p:AV)(k:AV->Mw)(R:bi)(U:St):Prop:=aI K (cq g false) (bj (some (false,1)) p U) (λv=>k v R U)
def HV(g:AV)(x:AV)(k:AV->Mw)(R:bi)(U:St):Prop:=aI K (cq g false) (dK (some false) x) (λv=>k v R U)
def zhn(g:AV)(x:AV)(k:AV->Mw)(R:bi)(U:St):Prop:=aI K (cq g false) (jf x) (λv=>k v R U)
def wX(g:AV)(x y z:AV)(k:AV->Mw)(R:bi)(U:St):Prop:=aI K (cq g false) (fP x y z) (λv=>k v R U)
def wY(g:AV)(x:AV)(k:AV->Mw)(R:bi)(U:St):Prop:=aI K (cq g false) (yx .not x) (λv=>k v R U)
def fe(g:AV)(x:AV)(k:AV->Mw)(R:bi)(U:St):Prop:=aI K (cq g false) (aW.val x) (λv=>k v R U)
def KF(g:AV)(x:aW)(k:AV->Mw)(R:bi)(U:St):Prop:=aI K (cq g false) (x) (λv=>k v R U)
def jN(B:List Nat)(u:St)(k:Mw)(R:bi)(U:St):Prop:=dR B u U/\k R U
def KG(f:List Nat->Mw)(R:bi)(U:St):Prop:=∃B,f B R U
def di(e m:Nat)(v i:AV)(k:AV->Mw)(R:bi)(U:St):Prop:=(bJ (some (e,m)) none v i).wp K U (λq U=>(bj (some (false,1)) q U).wp K U (λv U=>k v R U) (aD R)) (aD R)
def ae(f:FuncId)(l:List AV)(k:AV->Mw)(R:bi)(U:St):Prop:=ag K f l U (bD (λv U=>k v R U) (aD R))
def lD(f:St->Mw)(R:bi)(U:St):Prop:=f U R U
def bg(n:Nat)(p:AV)(k:AV->Mw)(R:bi)(U:St):Prop:=(bu (some n) p).wp K U (λq U=>(bj (some (false,1)) q U).wp K U (λv U=>k v R U) (aD R)) (aD R)
def yH(X B:List Nat)(k:Mw)(R:bi)(U:St):Prop:=(∀b∈X,b∈B)/\k R U
def ak(v:AV)(A B:Mw)(R:bi)(U:St):Prop:=cX v (A R U) (B R U)
def vw(f:AV->Mw)(g:(am)->Mw)(R:bi)(U:St):Prop:=rI 1 (λx0 U=>f x0 R U) λj=>g j R U
def aec(f:AV->AV->AV->AV->AV->AV->AV->AV->AV->AV->Mw)(g:(AV->AV->AV->AV->AV->AV->AV->AV->AV->am)->Mw)(R:bi)(U:St):Prop:=rI 10 (λx0 x1 x2 x3 x4 x5 x6 x7 x8 x9 U=>f x0 x1 x2 x3 x4 x5 x6 x7 x8 x9 R U) λj=>g j R U
def aed(f:AV->AV->AV->AV->AV->AV->AV->AV->AV->AV->AV->Mw)(g:(AV->AV->AV->AV->AV->AV->AV->AV->AV->AV->am)->Mw)(R:bi)(U:St):Prop:=rI 11 (λx0 x1 x2 x3 x4 x5 x6 x7 x8 x9 x10 U=>f x0 x1 x2 x3 x4 x5 x6 x7 x8 x9 x10 R U) λj=>g j R U
def pZ(f:AV->AV->Mw)(g:(AV->am)->Mw)(R:bi)(U:St):Prop:=rI 2 (λx0 x1 U=>f x0 x1 R U) λj=>g j R U
def uC(f:AV->AV->AV->Mw)(g:(AV->AV->am)->Mw)(R:bi)(U:St):Prop:=rI 3 (λx0 x1 x2 U=>f x0 x1 x2 R U) λj=>g j R U
def wM(f:AV->AV->AV->AV->Mw)(g:(AV->AV->AV->am)->Mw)(R:bi)(U:St):Prop:=rI 4 (λx0 x1 x2 x3 U=>f x0 x1 x2 x3 R U) λj=>g j R U
def uD(f:AV->AV->AV->AV->AV->Mw)(g:(AV->AV->AV->AV->am)->Mw)(R:bi)(U:St):Prop:=rI 5 (λx0 x1 x2 x3 x4 U=>f x0 x1 x2 x3 x4 R U) λj=>g j R U
def Eb(f:AV->AV->AV->AV->AV->AV->Mw)(g:(AV->AV->AV->AV->AV->am)->Mw)(R:bi)(U:St):Prop:=rI 6 (λx0 x1 x2 x3 x4 x5 U=>f x0 x1 x2 x3 x4 x5 R U) λj=>g j R U
def ahC(f:AV->AV->AV->AV->AV->AV->AV->Mw)(g:(AV->AV->AV->AV->AV->AV->am)->Mw)(R:bi)(U:St):Prop:=rI 7 (λx0 x1 x2 x3 x4 x5 x6 U=>f x0 x1 x2 x3 x4 x5 x6 R U) λj=>g j R U
def ahD(f:AV->AV->AV->AV->AV->AV->AV->AV->AV->Mw)(g:(AV->AV->AV->AV->AV->AV->AV->AV->am)->Mw)(R:bi)(U:St):Prop:=rI 9 (λx0 x1 x2 x3 x4 x5 x6 x7 x8 U=>f x0 x1 x2 x3 x4 x5 x6 x7 x8 R U) λj=>g j R U
def fw(t:Option (Bool×Nat))(v:AV)(k:AV->Mw)(R:bi)(U:St):Prop:=fV t v U λr=>k r R U
def Ch(v:AV)(f:AV->Qr->Mw)(A:Mw)(g:Nat->Mw)(h:Mw)(R:bi)(U:St):Prop:=AR K 1 v U (λx0 q U=>q.Qe (λU=>f x0 q (λ_ _=>False) U) U) (λU=>A R U) (λi U=>g i R U) (λU=>h R U) (λx U=>(aD R) x U)
def ahE(v:AV)(f:AV->AV->Qr->Mw)(A:Mw)(g:Nat->Mw)(h:Mw)(R:bi)(U:St):Prop:=AR K 2 v U (λx0 x1 q U=>q.Qe (λU=>f x0 x1 q (λ_ _=>False) U) U) (λU=>A R U) (λi U=>g i R U) (λU=>h R U) (λx U=>(aD R) x U)
def aee(l:List AV)(f:(AV->AV->AV->AV->AV->AV->AV->AV->AV->am)->AV->AV->AV->AV->AV->AV->AV->AV->AV->AV->Mw)(R:bi)(U:St):Prop:=nh 10 l U λlp x0 x1 x2 x3 x4 x5 x6 x7 x8 x9 U=>f lp x0 x1 x2 x3 x4 x5 x6 x7 x8 x9 R U
def aef(l:List AV)(f:(AV->AV->AV->AV->AV->AV->AV->AV->AV->AV->am)->AV->AV->AV->AV->AV->AV->AV->AV->AV->AV->AV->Mw)(R:bi)(U:St):Prop:=nh 11 l U λlp x0 x1 x2 x3 x4 x5 x6 x7 x8 x9 x10 U=>f lp x0 x1 x2 x3 x4 x5 x6 x7 x8 x9 x10 R U
def mR(l:List AV)(f:(AV->am)->AV->AV->Mw)(R:bi)(U:St):Prop:=nh 2 l U λlp x0 x1 U=>f lp x0 x1 R U
def fU(l:List AV)(f:(AV->AV->am)->AV->AV->AV->Mw)(R:bi)(U:St):Prop:=nh 3 l U λlp x0 x1 x2 U=>f lp x0 x1 x2 R U
def gX(l:List AV)(f:(AV->AV->AV->am)->AV->AV->AV->AV->Mw)(R:bi)(U:St):Prop:=nh 4 l U λlp x0 x1 x2 x3 U=>f lp x0 x1 x2 x3 R U
def oR(l:List AV)(f:(AV->AV->AV->AV->am)->AV->AV->AV->AV->AV->Mw)(R:bi)(U:St):Prop:=nh 5 l U λlp x0 x1 x2 x3 x4 U=>f lp x0 x1 x2 x3 x4 R U
def SZ(l:List AV)(f:(AV->AV->AV->AV->AV->am)->AV->AV->AV->AV->AV->AV->Mw)(R:bi)(U:St):Prop:=nh 6 l U λlp x0 x1 x2 x3 x4 x5 U=>f lp x0 x1 x2 x3 x4 x5 R U
def ahF(l:List AV)(f:(AV->AV->AV->AV->AV->AV->am)->AV->AV->AV->AV->AV->AV->AV->Mw)(R:bi)(U:St):Prop:=nh 7 l U λlp x0 x1 x2 x3 x4 x5 x6 U=>f lp x0 x1 x2 x3 x4 x5 x6 R U
def ahG(l:List AV)(f:(AV->AV->AV->AV->AV->AV->AV->am)->AV->AV->AV->AV->AV->AV->AV->AV->Mw)(R:bi)(U:St):Prop:=nh 8 l U λlp x0 x1 x2 x3 x4 x5 x6 x7 U=>f lp x0 x1 x2 x3 x4 x5 x6 x7 R U
def ahH(l:List AV)(f:(AV->AV->AV->AV->AV->AV->AV->AV->am)->AV->AV->AV->AV->AV->AV->AV->AV->AV->Mw)(R:bi)(U:St):Prop:=nh 9 l U λlp x0 x1 x2 x3 x4 x5 x6 x7 x8 U=>f lp x0 x1 x2 x3 x4 x5 x6 x7 x8 R U
def aQ(p:St->Prop)(R:bi)(U:St):Prop:=p U
def ah(v:AV)(R:bi)(U:St):Prop:=aq R v U
def Ec(R:bi)(U:St):Prop:=False
def Ed(b:Bool)(A B:Mw)(R:bi)(U:St):Prop:=exW b (A R U) (B R U)
def dj(m:Nat)(p:AV)(k:AV->Mw)(R:bi)(U:St):Prop:=(bj (some (true,m)) p U).wp K U (λv U=>k v R U) (aD R)
def ar(o:BinOp)(x y:AV)(k:AV->Mw)(R:bi)(U:St):Prop:=(bU o (BT.mk false false false none false) true x y).wp K U (λv U=>k v R U) (aD R)
def ca(o:BinOp)(x y:AV)(k:AV->Mw)(R:bi)(U:St):Prop:=(bU o (BT.mk false false false none false) false x y).wp K U (λv U=>k v R U) (aD R)
def cw(n:Nat)(p:AV)(k:AV->Mw)(R:bi)(U:St):Prop:=(bu (some n) p).wp K U (λv U=>k v R U) (aD R)
def eN(e m:Nat)(v i:AV)(k:AV->Mw)(R:bi)(U:St):Prop:=(bJ (some (e,m)) none v i).wp K U (λv U=>k v R U) (aD R)
def dI(x:AV)(k:AV->Mw)(R:bi)(U:St):Prop:=(CR x).wp K U (λv U=>k v R U) (aD R)
def iH(p:AV)(k:AV->Mw)(R:bi)(U:St):Prop:=(bj (some (false,1)) p U).wp K U (λv U=>k v R U) (aD R)
def cJ(x:AV)(k:AV->Mw)(R:bi)(U:St):Prop:=(dK (some false) x).wp K U (λv U=>k v R U) (aD R)
def cG(x:AV)(k:AV->Mw)(R:bi)(U:St):Prop:=(jf x).wp K U (λv U=>k v R U) (aD R)
def bX(x y z:AV)(k:AV->Mw)(R:bi)(U:St):Prop:=(fP x y z).wp K U (λv U=>k v R U) (aD R)
def ej(x:St->aW)(k:AV->Mw)(R:bi)(U:St):Prop:=(x U).wp K U (λv U=>k v R U) (aD R)
def fW(x:AV)(k:AV->Mw)(R:bi)(U:St):Prop:=(yx .not x).wp K U (λv U=>k v R U) (aD R)
def cn(p v:AV)(k:AV->Mw)(R:bi)(U:St):Prop:=(dD (some (false,1)) p v U).wp K U (λv U=>k v R U) (aD R)
def aC(x:aW)(k:AV->Mw)(R:bi)(U:St):Prop:=(x).wp K U (λv U=>k v R U) (aD R)
def dm(x:AV)(n:Nat)(k:AV->Mw)(R:bi)(U:St):Prop:=(jt x n).wp K U (λv U=>k v R U) (aD R)
def dr(m:Nat)(p v:AV)(k:AV->Mw)(R:bi)(U:St):Prop:=(dD (some (true,m)) p v U).wp K U (λv U=>k v R U) (aD R)
def dA(l:List AV)(k:AV->Mw)(R:bi)(U:St):Prop:=(aW.mU l).wp K U (λv U=>k v R U) (aD R)
def CE(e m:Nat)(v i:AV)(k:AV->Mw)(R:bi)(U:St):Prop:=bC K (bJ (some (e,m)) none v i) (λq=>bC K (bj (some (false,1)) q U) (λv=>k v R U))
def gO(n:Nat)(p:AV)(k:AV->Mw)(R:bi)(U:St):Prop:=bC K (bu (some n) p) (λq=>bC K (bj (some (false,1)) q U) (λv=>k v R U))
def zqa(m:Nat)(p:AV)(k:AV->Mw)(R:bi)(U:St):Prop:=bC K (bj (some (true,m)) p U) (λv=>k v R U)
def kT(o:BinOp)(x y:AV)(k:AV->Mw)(R:bi)(U:St):Prop:=bC K (bU o (BT.mk false false false none false) true x y) (λv=>k v R U)
def mX(o:BinOp)(x y:AV)(k:AV->Mw)(R:bi)(U:St):Prop:=bC K (bU o (BT.mk false false false none false) false x y) (λv=>k v R U)
def uE(f:FuncId)(l:List AV)(k:AV->Mw)(R:bi)(U:St):Prop:=bC K (aW.enter f l) (λv=>k v R U)
def od(n:Nat)(p:AV)(k:AV->Mw)(R:bi)(U:St):Prop:=bC K (bu (some n) p) (λv=>k v R U)
def mz(e m:Nat)(v i:AV)(k:AV->Mw)(R:bi)(U:St):Prop:=bC K (bJ (some (e,m)) none v i) (λv=>k v R U)
def zql(p:AV)(k:AV->Mw)(R:bi)(U:St):Prop:=bC K (bj (some (false,1)) p U) (λv=>k v R U)
def zw(x:AV)(k:AV->Mw)(R:bi)(U:St):Prop:=bC K (dK (some false) x) (λv=>k v R U)
def jl(x:AV)(k:AV->Mw)(R:bi)(U:St):Prop:=bC K (jf x) (λv=>k v R U)
def oe(p:AV)(u:St)(k:AV->Mw)(R:bi)(U:St):Prop:=bC K (bj (some (false,1)) p u) (λv=>k v R U)
def qm(x y z:AV)(k:AV->Mw)(R:bi)(U:St):Prop:=bC K (fP x y z) (λv=>k v R U)
def zqs(x:St->aW)(k:AV->Mw)(R:bi)(U:St):Prop:=bC K (x U) (λv=>k v R U)
def QS(x:AV)(k:AV->Mw)(R:bi)(U:St):Prop:=bC K (yx .not x) (λv=>k v R U)
def kN(x:aW)(k:AV->Mw)(R:bi)(U:St):Prop:=bC K (x) (λv=>k v R U)
def HW(x:AV)(n:Nat)(k:AV->Mw)(R:bi)(U:St):Prop:=bC K (jt x n) (λv=>k v R U)
end Go.Rip
set_option maxRecDepth 100000
namespace Go.Rip
open Go.Proofs
section
variable (a0 a1 a2 a3 a4 a5 a6:AV)(R:bi)(U:St)
def adD:Prop :=
 (ae 33 [a0] λb=>dm b 0 λc=>dm b 1 λd=>dm b 2 λb=>ar .neq b (bv 0) λe=>ak e (ah (.az [.bE,d,b])) (aC (dK (some true) a0) λb=>ae 96 [] λd=>ae 97 [] λe=>aC (cx (some [(0,1),(1,1),(2,1),(3,1),(4,1)]) (some [.af,bv 0,bv 0,.lK,.lK]) none [(0,c),(2,b),(3,d),(4,e)]) λb=>dI b λb=>ah (.az [b,(bv 0),(bv 0)]))) R U
def adE:Prop :=
 (ae 99 [a0,(co 2)] λb=>ae 100 [a0,(.str eD)] λc=>ak c (ae 101 [a0] λc=>cG b λd=>cw 0 d λd=>cw 1 d λd=>cn d c λ_=>ae 102 [a0,(.str ef)] λc=>ae 104 [a0] λc=>aC (ai (some (87,1)) (some [.bE]) 1 false [(0,c)]) λc=>ae 103 [b,c] λc=>ae 102 [a0,(.str dF)] λc=>ah b) (cG b λc=>cw 0 c λc=>cw 0 c λc=>cn c (co 4) λ_=>pZ (λc d=>ae 101 [c] λe=>cG d λf=>cw 0 f λf=>cw 1 f λf=>cn f e λ_=>ae 102 [c,(.str dM)] λe=>pZ (λe f=>ae 102 [e,(.str dE)] λg=>ae 102 [e,(.str ef)] λg=>ae 108 [e] λg=>aC (ai (some (87,1)) (some [.bE]) 1 false [(0,g)]) λg=>ae 103 [f,g] λg=>ae 102 [e,(.str gH)] λg=>ae 109 [e] λg=>aC (ai (some (87,1)) (some [.bE]) 1 false [(0,g)]) λg=>ae 103 [f,g] λg=>ae 102 [e,(.str dF)] λe=>ah f) λe=>aC (ai (some (9,1)) (some [.str []]) 1 false [(0,(.str dE))]) λf=>ae 105 [c,f] λf=>fW f λf=>ak f (ae 106 [c,d,(.func (.func 107) [c] [])] λf=>aQ (e c d)) (aQ (e c d))) λc=>ae 100 [a0,(.str jc)] λd=>ak d (cG b λd=>cw 0 d λd=>cw 0 d λd=>cn d (co 3) λ_=>aQ (c a0 b)) (ae 102 [a0,(.str eW)] λd=>aQ (c a0 b)))) R U
def adF:Prop :=
 (ae 111 [a0] λb=>dm b 0 λc=>dm b 1 λb=>ar .neq b (bv 0) λd=>ak d (ah (.az [.af,c,b])) (ae 112 [a0] λb=>dm b 0 λc=>dm b 1 λd=>dm b 2 λd=>dm b 3 λb=>ah (.az [c,d,b]))) R U
def adG:Prop :=
 (ae 113 [a0] λb=>aC (cx (some [(0,1),(1,1),(2,1),(3,1),(4,1),(5,1)]) (some [co 0,.str [],bv 0,bv 0,bv 0,bv 0]) none [(0,(co 4)),(4,b)]) λb=>dA [co 0,.str [],bv 0,bv 0,bv 0,bv 0] λc=>dr 6 c b λ_=>ae 114 [a0,(.str eD)] λb=>ak b (ae 115 [a0] λb=>cw 0 c λd=>cn d (co 2) λ_=>cw 1 c λd=>cn d b λ_=>ae 116 [a0,(.str ef)] λb=>ae 117 [a0] λb=>ae 116 [a0,(.str dF)] λd=>dj 6 c λd=>aC (ai (some (23,1)) (some [.af]) 1 false [(0,b)]) λb=>ae 60 [d,b] λb=>ah b) (pZ (λb d=>ae 115 [b] λe=>cw 1 d λf=>cn f e λ_=>ae 116 [b,(.str dM)] λe=>uC (λe f g=>ae 116 [e,(.str ef)] λh=>ae 119 [e] λh=>ae 116 [e,(.str gH)] λi=>ae 120 [e] λi=>ae 116 [e,(.str dF)] λe=>dj 6 f λe=>aC (ai (some (23,1)) (some [.af]) 3 false [(0,g),(1,h),(2,i)]) λf=>ae 60 [e,f] λe=>ah e) λe=>ae 114 [b,(.str dE)] λf=>fW f λf=>ak f (ae 118 [b] λf=>fU [b,d,f] λf g h i=>ae 114 [g,(.str ep)] λl=>ak l (ae 118 [g] λl=>ej (dH (some (43,6)) false i l) λl=>aQ (f g h l)) (ae 116 [g,(.str dE)] λf=>aQ (e g h i))) (aQ (e b d .af))) λb=>ae 114 [a0,(.str jc)] λd=>ak d (cw 0 c λd=>cn d (co 3) λ_=>aQ (b a0 c)) (ae 116 [a0,(.str eW)] λd=>aQ (b a0 c)))) R U
def adH:Prop :=
 (dA [bv 0,bv 0] λb=>jl a0 λc=>gO 1 c λc=>jl a0 λd=>gO 0 d λd=>zw d λd=>mX .lss c d λc=>ak c (jl a0 λc=>gO 0 c λc=>jl a0 λd=>gO 1 d λd=>mz 51 3 c d λc=>gO 2 c λc=>kN (cx (some [(0,1),(1,1)]) (some [bv 0,bv 0]) none [(0,c),(1,(bv 4))]) λc=>dr 2 b c λ_=>fw (some (true,2)) b λc=>ah c) (aC (dK (some true) a1) λc=>aC (cx (some [(0,1),(1,1)]) (some [bv 0,bv 0]) none [(0,c),(1,(bv 4))]) λc=>dr 2 b c λ_=>fw (some (true,2)) b λb=>ah b)) R U
def adJ:Prop :=
 (dI a0 λb=>cw 5 b λc=>cn c (bv 1) λ_=>dj 6 b λb=>aC (ai (some (43,6)) (some [co 0,.str [],bv 0,bv 0,bv 0,bv 0]) 1 true [(0,b)]) λb=>fU [a1,b,(bv 0)] λb c d e=>cJ c λf=>ca .lss e f λf=>ak f (di 23 1 c e λf=>ej (dH (some (43,6)) true d f) λf=>ar .add e (bv 1) λe=>aQ (b c f e)) (cJ d λb=>eN 43 6 d (bv 0) λc=>cw 5 c λc=>cn c b λ_=>ah d)) R U
def adK:Prop :=
 (dI a0 λb=>dj 3 b λb=>aC (ai (some (9,1)) (some [.str []]) 3 false [(0,(.str eD)),(1,(.str jc)),(2,(.str eW))]) λc=>ae 121 [b,c] λb=>ah b) R U
def adL:Prop :=
 (dI a0 λb=>dj 1 b λc=>ae 30 [c] λc=>ar .neq c (bv 0) λd=>ak d (ah (.az [(.str w_),c])) (bg 0 b λc=>cJ c λc=>ar .sub c (bv 1) λc=>ae 122 [(bv 0),c,a1] λc=>fW c λc=>ak c (ah (.az [(.str w_),(bv 3)])) (dj 1 b λb=>aC (cx (some [(0,1)]) (some [.af]) none [(0,b)]) λb=>aC (kQ K.P a2 [b]) λb=>dm b 0 λc=>dm b 1 λb=>ar .neq b (bv 0) λd=>ak d (ah (.az [(.str w_),b])) (ah (.az [c,(bv 0)]))))) R U
def adM:Prop :=
 (dI a0 λb=>dj 1 b λb=>iH a1 λc=>ae 64 [b,c] λb=>dm b 0 λc=>dm b 1 λb=>ah (.az [c,b])) R U
def SG:Prop :=
 (dI a0 λb=>dA [.str []] λc=>dA [bv 0] λd=>cw 0 b λe=>bg 0 e λe=>eN 43 6 e a1 λe=>bg 0 e λe=>ar .neq e (co 1) λe=>ak e (lD λe=>kN (bj (some (true,1)) b e) λf=>uE 96 [] λg=>kN (cx (some [(0,1),(1,1),(2,1)]) (some [.af,.af,.lK]) none [(0,f),(2,g)]) λf=>dI f λf=>jN ((cB b++[])++[]) e (ae 123 [f,a1] λe=>cG f λe=>bg 1 e λe=>ae 124 [e] λe=>dm e 0 λf=>dm e 1 λe=>cn c f λ_=>cn d e λ_=>fw ny c λe=>fw ny d λf=>ah (.az [e,f]))) (aC (aW.new .box none (.wV 158 [.bE,.af])) λe=>dj 1 b λf=>ae 81 [f,a1] λf=>Ch f (λf g=>dj 1 b λb=>ae 64 [b,f] λb=>dm b 0 λf=>dm b 1 λb=>ar .neq b (bv 0) λh=>ak h (cn c (.str w_) λ_=>cn d b λ_=>aQ g.r) (ar .add f (.str pV) λb=>ae 125 [e,b] λb=>aQ g.n)) (ae 126 [e] λb=>ar .gtr b (bv 2500) λb=>ak b (cn c (.str w_) λ_=>cn d (bv 5) λ_=>fw ny c λb=>fw ny d λf=>ah (.az [b,f])) (ae 127 [e] λb=>cn c b λ_=>cn d (bv 0) λ_=>fw ny c λb=>fw ny d λf=>ah (.az [b,f]))) (λb=>Ed (Nat.beq b 0) (ae 126 [e] λb=>ar .gtr b (bv 2500) λb=>ak b (cn c (.str w_) λ_=>cn d (bv 5) λ_=>fw ny c λb=>fw ny d λf=>ah (.az [b,f])) (ae 127 [e] λb=>cn c b λ_=>cn d (bv 0) λ_=>fw ny c λb=>fw ny d λe=>ah (.az [b,e]))) (Ec)) (fw ny c λb=>fw ny d λc=>ah (.az [b,c])))) R U
def adN:Prop :=
 (dI a0 λb=>dj 1 b λc=>ae 31 [c] λc=>ar .neq c (bv 0) λd=>ak d (ah c) (ar .lss a1 (bv 0) λc=>fe c a1 λd=>lN c 0 b λb=>HV c b λb=>Bf c .geq d b λb=>bX c (.bool true) b λb=>ak b (ah (bv 3)) (ah (bv 0)))) R U
def adO:Prop :=
 (aC (cx (some [(0,1),(1,1)]) (some [.af,.af]) none [(0,a0)]) λb=>dI b λb=>ae 128 [b,a1] λc=>cG b λb=>bg 1 b λb=>ae 129 [b] λb=>dm b 0 λc=>dm b 1 λb=>ah (.az [c,b])) R U
def adP:Prop :=
 (ar .add a1 (bv 1) λb=>gX [a0,a1,.af,b] λb c d e f=>eN 43 6 c d λg=>bg 5 g λg=>ca .add d g λg=>ca .lss f g λg=>ak g (aC (ai (some (3,1)) (some [bv 0]) 1 false [(0,f)]) λg=>ej (dH (some (3,1)) false e g) λg=>eN 43 6 c f λh=>bg 5 h λh=>ca .add f h λf=>aQ (b c d g f)) (ah e)) R U
def adQ:Prop :=
 (dI a0 λb=>od 0 b λc=>gO 0 c λc=>zw c λc=>kT .eql c (bv 0) λc=>QR c 0 b λd=>lN c 0 d λd=>CD c 43 6 d (bv 0) λd=>lN c 0 d λd=>jr c .neq d (co 1) λd=>qm c (.bool true) d λc=>QR c 0 b λd=>lN c 0 d λd=>CD c 43 6 d (bv 0) λd=>lN c 5 d λd=>QR c 0 b λe=>lN c 0 e λe=>HV c e λe=>Bf c .neq d e λd=>qm c (.bool true) d λc=>ak c (ah (.bool false)) (ae 130 [] λc=>cw 0 b λd=>bg 0 d λd=>cJ d λd=>gX [b,c,d,(bv 0)] λb c d e f=>ca .lss f e λg=>ak g (dj 1 c λg=>ae 131 [g,f,d] λg=>fW g λg=>ak g (ah (.bool false)) (ar .add f (bv 1) λf=>aQ (b c d e f))) (ah (.bool true)))) R U
def adR:Prop :=
 (dI a0 λb=>bg 0 b λc=>cJ c λd=>SZ [b,(.bool false),.af,c,d,(bv 0)] λb c d e f g h=>ca .lss h g λi=>ak i (eN 43 6 f h λi=>dj 6 i λi=>dA [bv 0] λl=>dA [co 0,.str [],bv 0,bv 0,bv 0,bv 0] λm=>cn l h λ_=>dr 6 m i λ_=>ae 132 [e,(.func (.func 133) [] [l])] λe=>cJ e λi=>ar .gtr i (bv 60) λi=>ak i (ah (.bool true)) (iH l λi=>bg 5 m λl=>ca .add i l λi=>aC (ai (some (3,1)) (some [bv 0]) 1 true [(0,i)]) λi=>ej (dH (some (3,1)) true e i) λe=>ar .add h (bv 1) λh=>aQ (b c d e f g h))) (dA [bv 0] λb=>cn b (bv 0) λ_=>dj 1 c λc=>aC (cx (some [(0,1)]) (some [.af]) none [(0,c)]) λc=>ae 81 [c,(bv 0)] λc=>Ch c (λc c=>iH b λe=>ar .add e (bv 1) λe=>cn b e λ_=>aQ c.n) (iH b λc=>ar .gtr c (bv 24) λc=>ah c) (λc=>Ed (Nat.beq c 2) (iH b λb=>ar .gtr b (bv 24) λb=>ah b) (Ec)) (ah d))) R U
def adS:Prop :=
 (cJ a0 λb=>ar .eql b (bv 0) λb=>fe b a0 λc=>CD b 43 6 c (bv 0) λc=>lN b 5 c λc=>fe b a0 λd=>HV b d λd=>Bf b .neq c d λc=>bX b (.bool true) c λb=>ak b (ah (.bool false)) (mR [a0,(bv 0)] λb c d=>cJ c λe=>ca .lss d e λe=>ak e (eN 43 6 c d λe=>bg 5 e λe=>ar .lss e (bv 1) λe=>fe e c λf=>fe e d λg=>CD e 43 6 f g λf=>lN e 5 f λf=>fe e c λg=>HV e g λg=>fe e d λh=>Bf e .sub g h λg=>Bf e .gtr f g λf=>bX e (.bool true) f λe=>ak e (ah (.bool false)) (ar .add d (bv 1) λd=>aQ (b c d))) (mR [c,(bv 0)] λb c d=>cJ c λe=>ca .lss d e λe=>ak e (ar .add d (bv 1) λe=>fU [c,d,e] λc d e f=>eN 43 6 d e λg=>bg 5 g λg=>ca .add e g λg=>ca .lss f g λg=>ak g (eN 43 6 d f λg=>bg 5 g λg=>ca .add f g λg=>aQ (c d e g)) (eN 43 6 d e λc=>bg 5 c λc=>ca .add e c λc=>ca .neq f c λc=>ak c (ah (.bool false)) (ar .add e (bv 1) λc=>aQ (b d c)))) (ah (.bool true))))) R U
def adT:Prop :=
 (dI a0 λb=>gO 0 b λc=>uE 134 [c] λc=>gO 1 b λd=>kT .neq d (.str w_) λd=>kN (bU .neq (BT.mk true false false none false) false c d) λc=>lN c 1 b λd=>jr c .neq d (.str w_) λd=>fe c d λd=>fR d 1 b λe=>lM d 135 [e] λe=>zgt d e λe=>wX c d e (.bool false) λd=>qm c (.bool true) d λc=>ak c (ah (.bool false)) (bg 0 b λc=>ae 136 [c] λc=>fR c 2 b λd=>lM c 137 [d] λd=>zgt c d λd=>bX c d (.bool false) λc=>lN c 0 b λd=>wW c 136 [d] λd=>wY c d λd=>fe c d λd=>fR d 2 b λe=>eh d .neq e (bv 0) λe=>wX c d e (.bool false) λd=>bX c (.bool true) d λc=>ak c (ah (.bool false)) (bg 0 b λc=>ar .eql c (co 12) λc=>fR c 3 b λd=>lM c 137 [d] λd=>bX c d (.bool false) λc=>lN c 0 b λd=>jr c .neq d (co 12) λd=>fe c d λd=>fR d 3 b λb=>eh d .eql b (bv 0) λb=>wX c d b (.bool false) λb=>bX c (.bool true) b λb=>ah b))) R U
def adU:Prop :=
 (cJ a1 λb=>ar .eql a0 (co 1) λc=>ak c (ae 138 [a1] λc=>ah c) (wM (λc d e f=>ak f (ar .eql d (bv 1) λf=>cU f c λg=>Ea f 5 1 g (bv 0) λg=>lM f 139 [g] λg=>bX f g (.bool false) λf=>ah f) (wM (λf g h i=>ak i (ar .geq g (bv 2) λi=>cU i f λl=>cU i g λm=>eh i .sub m (bv 2) λm=>ql i (eI false (some (5,1)) l none (some m)) λl=>lM i 140 [l,(co 5)] λl=>bX i l (.bool false) λi=>cU i f λl=>cU i g λm=>eh i .sub m (bv 2) λm=>Ea i 5 1 l m λl=>lM i 141 [l] λl=>bX i l (.bool false) λi=>cU i f λl=>cU i g λm=>eh i .sub m (bv 1) λm=>Ea i 5 1 l m λl=>lM i 142 [l] λl=>bX i l (.bool false) λi=>ah i) (ar .eql h (co 8) λi=>ak i (ar .geq g (bv 2) λi=>cU i f λl=>lM i 143 [l] λl=>bX i l (.bool false) λi=>ah i) (ar .eql h (co 9) λi=>ak i (ar .geq g (bv 2) λi=>cU i f λl=>lM i 144 [l] λl=>bX i l (.bool false) λi=>ah i) (ar .eql h (co 10) λi=>ak i (ar .eql g (bv 3) λi=>cU i f λl=>lM i 144 [l] λl=>bX i l (.bool false) λi=>ah i) (wM (λi l m n=>ak n (ar .eql l (bv 2) λn=>cU n i λo=>lM n 144 [o] λo=>bX n o (.bool false) λn=>ah n) (wM (λn o p q=>ak q (ar .eql o (bv 1) λq=>cU q n λr=>lM q 144 [r] λr=>bX q r (.bool false) λq=>ah q) (ar .eql p (co 34) λq=>ak q (ar .geq o (bv 1) λq=>cU q n λr=>lM q 145 [r] λr=>bX q r (.bool false) λq=>ah q) (ar .eql p (co 35) λq=>ak q (ar .geq o (bv 2) λq=>cU q n λr=>cU q o λs=>eh q .sub s (bv 1) λs=>ql q (eI false (some (5,1)) r none (some s)) λr=>lM q 140 [r,(co 37)] λr=>bX q r (.bool false) λq=>cU q n λr=>cU q o λs=>eh q .sub s (bv 1) λs=>Ea q 5 1 r s λr=>lM q 142 [r] λr=>bX q r (.bool false) λq=>ah q) (ar .eql p (co 36) λq=>ak q (ar .eql o (bv 3) λq=>cU q n λr=>Ea q 5 1 r (bv 0) λr=>lM q 142 [r] λr=>bX q r (.bool false) λq=>cU q n λr=>Ea q 5 1 r (bv 1) λr=>eh q .eql r (co 37) λr=>bX q r (.bool false) λq=>cU q n λn=>Ea q 5 1 n (bv 2) λn=>lM q 142 [n] λn=>bX q n (.bool false) λn=>ah n) (pZ (λn q=>ak q (ar .eql n (bv 0) λn=>ah n) (ah (.bool false))) λn=>ar .eql p (co 6) λq=>ak q (aQ (n o q)) (ar .eql p (co 7) λq=>ak q (aQ (n o q)) (ar .eql p (co 26) λq=>ak q (aQ (n o q)) (ar .eql p (co 27) λq=>ak q (aQ (n o q)) (ar .eql p (co 28) λq=>ak q (aQ (n o q)) (ar .eql p (co 29) λq=>ak q (aQ (n o q)) (ar .eql p (co 30) λq=>ak q (aQ (n o q)) (ar .eql p (co 31) λq=>ak q (aQ (n o q)) (ar .eql p (co 32) λq=>ak q (aQ (n o q)) (ar .eql p (co 33) λq=>ak q (aQ (n o q)) (ar .eql p (co 37) λp=>aQ (n o p)))))))))))))))) λn=>ar .eql m (co 12) λo=>ak o (aQ (n i l m o)) (ar .eql m (co 14) λo=>ak o (aQ (n i l m o)) (ar .eql m (co 16) λo=>ak o (aQ (n i l m o)) (ar .eql m (co 19) λo=>ak o (aQ (n i l m o)) (ar .eql m (co 25) λo=>aQ (n i l m o))))))) λi=>ar .eql h (co 11) λl=>ak l (aQ (i f g h l)) (ar .eql h (co 13) λl=>ak l (aQ (i f g h l)) (ar .eql h (co 15) λl=>ak l (aQ (i f g h l)) (ar .eql h (co 17) λl=>ak l (aQ (i f g h l)) (ar .eql h (co 18) λl=>ak l (aQ (i f g h l)) (ar .eql h (co 20) λl=>ak l (aQ (i f g h l)) (ar .eql h (co 21) λl=>ak l (aQ (i f g h l)) (ar .eql h (co 22) λl=>ak l (aQ (i f g h l)) (ar .eql h (co 23) λl=>ak l (aQ (i f g h l)) (ar .eql h (co 24) λl=>aQ (i f g h l))))))))))))))) λf=>ar .eql e (co 3) λg=>ak g (aQ (f c d e g)) (ar .eql e (co 4) λg=>aQ (f c d e g)))) λc=>ar .eql a0 (co 2) λd=>ak d (aQ (c a1 b a0 d)) (ar .eql a0 (co 5) λd=>aQ (c a1 b a0 d)))) R U
def adV:Prop :=
 (cJ a0 λb=>aC (xl (some (3,1)) (some [bv 0]) true b b) λb=>fU [a0,b,(bv 0)] λb c d e=>cJ c λf=>ca .lss e f λf=>ak f (ae 67 [c,e] λf=>oR [c,d,e,f,(bv 0)] λc e f g h i=>cJ h λl=>ca .lss i l λl=>ak l (CE 3 1 h i λl=>CE 3 1 f g λm=>kT .add m (bv 1) λm=>mz 3 1 f l λl=>cn l m λ_=>ar .add i (bv 1) λi=>aQ (c e f g h i)) (ar .add g (bv 1) λc=>aQ (b e f c))) (ah d)) R U
def adW:Prop :=
 (aC (dK (some true) a0) λb=>ar .gtr b (bv 2500) λb=>ak b (ah (.az [(bv 0),(bv 5)])) (aC (dK (some true) a0) λb=>fU [a0,b,(bv 0)] λb c d e=>ca .lss e d λf=>ak f (aC (fL true none none c e) λf=>ae 146 [f] λf=>fW f λf=>ak f (ah (.az [e,(bv 2)])) (ar .add e (bv 1) λe=>aQ (b c d e))) (ah (.az [(bv 0),(bv 0)])))) R U
def adX(a0 a1:AV)(R:bi)(U:St):Prop :=
 (iH a1 λb=>iH a1 λc=>cJ c λc=>ar .sub c (bv 1) λc=>eN 51 3 b c λb=>bg 1 b λb=>aC (dK (some true) b) λb=>ah b) R U
def adY:Prop :=
 (dI a0 λb=>dI a1 λc=>ah (.func (.func 147) [] [b,c])) R U
def adZ:Prop :=
 (dA [co 0,.str [],bv 0] λb=>ae 149 [a0] λc=>aC (eI true none a0 none (some c)) λc=>ar .eql c (.str w_) λd=>ak d (ae 150 [a0] λd=>dm d 0 λe=>dm d 1 λd=>dr 3 b e λ_=>fw (some (true,3)) b λe=>ah (.az [e,d])) (aC (fL true none none c (bv 0)) λd=>aC (ai (some (178,1)) (some [bv 0]) 1 false [(0,(bv 2))]) λe=>ae 151 [d,e] λd=>ak d (aC (cx (some [(0,1),(1,1),(2,1)]) (some [co 0,.str [],bv 0]) none [(0,(co 2)),(1,c)]) λd=>ae 152 [c] λe=>dr 3 b d λ_=>fw (some (true,3)) b λd=>ah (.az [d,e])) (aC (fL true none none c (bv 0)) λd=>aC (ai (some (178,1)) (some [bv 0]) 1 false [(0,(bv 3))]) λe=>ae 151 [d,e] λd=>fW d λd=>ak d (aC (cx (some [(0,1),(1,1),(2,1)]) (some [co 0,.str [],bv 0]) none []) λd=>dr 3 b d λ_=>fw (some (true,3)) b λd=>ah (.az [d,(bv 4)])) (ae 153 [] λd=>ej (fK (some (.s,4)) (some (.bool false)) d c false) λd=>ak d (aC (cx (some [(0,1),(1,1),(2,1)]) (some [co 0,.str [],bv 0]) none [(0,(co 3)),(1,c)]) λd=>dr 3 b d λ_=>fw (some (true,3)) b λd=>ah (.az [d,(bv 0)])) (aC (dK (some true) c) λd=>ar .gtr d (bv 12) λd=>ak d (aC (cx (some [(0,1),(1,1),(2,1)]) (some [co 0,.str [],bv 0]) none []) λd=>dr 3 b d λ_=>fw (some (true,3)) b λd=>ah (.az [d,(bv 4)])) (aC (cx (some [(0,1),(1,1),(2,1)]) (some [co 0,.str [],bv 0]) none [(0,(co 1)),(1,c)]) λc=>dr 3 b c λ_=>fw (some (true,3)) b λb=>ah (.az [b,(bv 0)]))))))) R U
def ad0:Prop :=
 (dI a0 λb=>dI a1 λc=>lD λd=>oe c d λe=>od 0 b λf=>od 0 f λf=>oe f d λg=>oe c d λh=>mz 43 6 g h λg=>od 5 g λg=>oe g d λh=>mX .add e h λe=>dA [bv 0] λh=>jN ((cB g++[])++((cB c++[])++((cB f++[])++((cB c++[])++[])))) d (cn h e λ_=>ah (.func (.func 155) [] [c,h,b]))) R U
def ad1:Prop :=
 (cJ a0 λb=>ar .gtr b (bv 900) λb=>ak b (ah (bv 5)) (cJ a0 λb=>fU [a0,b,(bv 0)] λb c d e=>ca .lss e d λf=>ak f (eN 51 3 c e λf=>dj 3 f λf=>dA [co 0,.str [],bv 0] λg=>dr 3 g f λ_=>dj 3 g λf=>ae 156 [f] λf=>fW f λf=>ak f (ah (bv 2)) (ar .add e (bv 1) λe=>aQ (b c d e))) (ah (bv 0)))) R U
def ad2:Prop :=
 (ae 164 [a0] λb=>aC (cx (some [(0,1),(1,1),(2,1),(3,1),(4,1),(5,1)]) (some [co 0,.str [],bv 0,bv 0,bv 0,bv 0]) none [(0,a1),(4,b)]) λb=>aC (cx (some [(0,6),(6,1)]) (some [co 0,.str [],bv 0,bv 0,bv 0,bv 0,.af]) none [(0,b)]) λb=>dI b λb=>ah b) R U
def VF:Prop :=
 (aC (ai (some (9,1)) (some [.str []]) 1 false [(0,a1)]) λb=>ae 105 [a0,b] λb=>fW b λb=>ak b (ah (.bool false)) (cG a0 λb=>bg 1 b λb=>ar .add b (bv 1) λb=>cG a0 λc=>cw 1 c λc=>cn c b λ_=>ah (.bool true))) R U
def VH:Prop :=
 (ae 165 [a0,(co 1)] λb=>ah b) R U
def VJ:Prop :=
 (ae 100 [a0,a1] λb=>fW b λb=>ak b (ae 166 [a0] λb=>ah (.az [])) (ah (.az []))) R U
def VL:Prop :=
 (cG a0 λb=>bg 6 b λb=>ej (dH (some (87,1)) false b a1) λb=>cG a0 λc=>cw 6 c λc=>cn c b λ_=>ah a0) R U
def VN:Prop :=
 (aC (ai (some (9,1)) (some [.str []]) 1 false [(0,(.str dM))]) λb=>ae 105 [a0,b] λb=>fW b λb=>ak b (ae 108 [a0] λb=>ah b) (ae 99 [a0,(co 8)] λb=>ae 102 [a0,(.str dM)] λc=>ae 106 [a0,b,(.func (.func 108) [a0] [])] λc=>ae 102 [a0,(.str dE)] λc=>ae 102 [a0,(.str gn)] λc=>ae 108 [a0] λc=>aC (ai (some (87,1)) (some [.bE]) 1 false [(0,c)]) λc=>ae 103 [b,c] λb=>ah b)) R U
def VP:Prop :=
 (ae 167 [a0,(bv 0)] λb=>ae 121 [b,a1] λb=>ah b) R U
def Nx:Prop :=
 (aC (kQ K.P a2 []) λb=>aC (ai (some (87,1)) (some [.bE]) 1 false [(0,b)]) λb=>ae 103 [a1,b] λb=>fU [a0,a1,a2] λb c d e=>ae 100 [c,(.str ep)] λf=>ak f (aC (kQ K.P e []) λf=>aC (ai (some (87,1)) (some [.bE]) 1 false [(0,f)]) λf=>ae 103 [d,f] λf=>aQ (b c d e)) (ah (.az []))) R U
def VR:Prop :=
 (ae 99 [a0,(co 5)] λb=>ae 101 [a0] λc=>cG b λd=>cw 0 d λd=>cw 1 d λd=>cn d c λ_=>ae 102 [a0,(.str ef)] λc=>ae 104 [a0] λc=>aC (ai (some (87,1)) (some [.bE]) 1 false [(0,c)]) λc=>ae 103 [b,c] λb=>ah b) R U
def VT:Prop :=
 (ae 99 [a0,(co 6)] λb=>vw (λc=>ah c) λc=>ae 100 [a0,(.str vR)] λd=>ak d (cG b λd=>cw 0 d λd=>cw 2 d λd=>cn d (bv 1) λ_=>aQ (c b)) (ae 100 [a0,(.str sN)] λd=>ak d (cG b λd=>cw 0 d λd=>cw 2 d λd=>cn d (bv 2) λ_=>aQ (c b)) (ae 100 [a0,(.str kh)] λd=>ak d (ae 168 [a0] λd=>cG b λe=>cw 0 e λe=>cw 0 e λe=>cn e (co 7) λ_=>cG b λe=>cw 0 e λe=>cw 2 e λe=>cn e d λ_=>aQ (c b)) (ae 102 [a0,(.str lq)] λd=>ae 168 [a0] λd=>cG b λe=>cw 0 e λe=>cw 2 e λe=>cn e d λ_=>aQ (c b))))) R U
def VV:Prop :=
 (ae 169 [a0] λb=>ae 99 [a0,(co 9)] λc=>aC (ai (some (87,1)) (some [.bE]) 1 false [(0,b)]) λd=>ae 103 [c,d] λd=>pZ (λd e=>cG e λf=>bg 6 f λf=>cJ f λf=>ar .eql f (bv 1) λf=>ak f (ah d) (ah e)) λd=>fU [a0,b,c] λb c e f=>aC (ai (some (9,1)) (some [.str []]) 1 false [(0,(.str dF))]) λg=>ae 105 [c,g] λg=>ak g (ae 167 [c,(bv 1)] λg=>dA [co 0,.str [],bv 0] λh=>dr 3 h g λ_=>bg 0 h λg=>ar .eql g (co 0) λg=>CC g 3 h λh=>wW g 61 [h] λh=>bX g (.bool true) h λg=>ak g (aQ (d e f)) (ae 102 [c,(.str dF)] λg=>ae 169 [c] λg=>aC (ai (some (87,1)) (some [.bE]) 1 false [(0,g)]) λg=>ae 103 [f,g] λg=>aQ (b c e f))) (aQ (d e f))) R U
def VX:Prop :=
 (cG a0 λb=>cw 0 b λb=>dj 6 b λb=>aC (ai (some (43,6)) (some [co 0,.str [],bv 0,bv 0,bv 0,bv 0]) 1 true [(0,b)]) λb=>cG a0 λc=>bg 6 c λc=>cJ c λd=>gX [b,c,d,(bv 0)] λb c d e f=>ca .lss f e λg=>ak g (di 87 1 d f λg=>ae 110 [g] λg=>ej (dH (some (43,6)) true c g) λg=>ar .add f (bv 1) λf=>aQ (b g d e f)) (cJ c λb=>eN 43 6 c (bv 0) λd=>cw 5 d λd=>cn d b λ_=>ah c)) R U
def VZ:Prop :=
 (aC (dK (some true) a0) λb=>ar .gtr b (bv 2500) λb=>ak b (ah (.az [(bv 0),(bv 5)])) (mR [a0,(bv 0)] λb c d=>aC (dK (some true) c) λe=>ca .lss d e λe=>ak e (aC (fL true none none c d) λe=>ae 170 [e] λe=>fW e λe=>ak e (ah (.az [d,(bv 2)])) (ar .add d (bv 1) λd=>aQ (b c d))) (ah (.az [(bv 0),(bv 0)])))) R U
def V5:Prop :=
 (gX [a0,.af,.af,(bv 0)] λb c d e f=>aC (dK (some true) c) λg=>ca .lss f g λg=>ak g (aC (fL true none none c f) λg=>ar .eql g (co 32) λg=>fe g c λh=>fe g f λi=>KF g (fL true none none h i) λh=>jr g .eql h (co 10) λh=>bX g (.bool true) h λg=>ak g (ar .add f (bv 1) λg=>aQ (b c d e g)) (aC (fL true none none c f) λg=>ar .eql g (co 126) λg=>ak g (ae 171 [c,f] λg=>aC (eI true none g (some (bv 1)) none) λh=>aC (cx (some [(0,1),(1,1),(2,1)]) (some [co 0,.str [],bv 0]) none [(0,(co 5)),(1,h),(2,f)]) λh=>aC (ai (some (51,3)) (some [co 0,.str [],bv 0]) 1 false [(0,h)]) λh=>ej (dH (some (51,3)) false e h) λh=>aC (dK (some true) g) λg=>ca .add f g λg=>aQ (b c d h g)) (ae 172 [c,f] λg=>dm g 0 λh=>dm g 1 λg=>dA [co 0,.str [],bv 0] λi=>dr 3 i h λ_=>Eb (λh l m n o p=>ar .neq p (bv 0) λq=>ak q (ah (.az [.af,.af,n,p])) (dj 3 o λp=>aC (ai (some (51,3)) (some [co 0,.str [],bv 0]) 1 false [(0,p)]) λp=>ej (dH (some (51,3)) false l p) λl=>bg 1 o λo=>aC (dK (some true) o) λo=>ca .add n o λn=>aQ (b h l m n))) λb=>ar .eql g (bv 0) λh=>cU h d λl=>zu h l λl=>eh h .eql l (bv 900) λl=>bX h l (.bool false) λh=>ak h (aQ (b c d e f i (bv 5))) (aQ (b c d e f i g))))) (ah (.az [d,e,(bv 0),(bv 0)]))) R U
def V7:Prop :=
 (jl a0 λb=>gO 1 b λb=>jl a0 λc=>gO 0 c λc=>zw c λc=>mX .lss b c λb=>ak b (jl a0 λb=>gO 0 b λb=>jl a0 λc=>gO 1 c λc=>mz 51 3 b c λb=>gO 2 b λb=>ah b) (ah (bv 0))) R U
def V9:Prop :=
 (ae 173 [a0,a1] λb=>fW b λb=>ak b (ah (.bool false)) (cG a0 λb=>bg 1 b λb=>ar .add b (bv 1) λb=>cG a0 λc=>cw 1 c λc=>cn c b λ_=>ah (.bool true))) R U
def Wb:Prop :=
 (ae 174 [a0,(co 1)] λb=>fW b λb=>ak b (cG a0 λb=>cw 2 b λb=>cn b (.bool true) λ_=>ah (.str w_)) (cG a0 λb=>bg 1 b λb=>ar .add b (bv 1) λb=>cG a0 λc=>cw 1 c λc=>cn c b λ_=>jl a0 λb=>gO 0 b λb=>jl a0 λc=>gO 1 c λc=>kT .sub c (bv 1) λc=>mz 51 3 b c λb=>gO 1 b λb=>ah b)) R U
def Wd:Prop :=
 (ae 113 [a0] λb=>ae 173 [a0,a1] λc=>fW c λc=>ak c (cG a0 λc=>cw 2 c λc=>cn c (.bool true) λ_=>ah (bv 0)) (cG a0 λc=>bg 1 c λc=>ar .add c (bv 1) λc=>cG a0 λd=>cw 1 d λd=>cn d c λ_=>ah b)) R U
def Wf:Prop :=
 (ae 113 [a0] λb=>ae 114 [a0,(.str dM)] λc=>fW c λc=>ak c (ae 119 [a0] λc=>ah c) (ae 119 [a0] λc=>fU [a0,b,c] λb c d e=>ae 114 [c,(.str ep)] λf=>ak f (ae 119 [c] λf=>ej (dH (some (43,6)) false e f) λf=>aQ (b c d f)) (ae 116 [c,(.str dE)] λb=>ae 116 [c,(.str gn)] λb=>aC (cx (some [(0,1),(1,1),(2,1),(3,1),(4,1),(5,1)]) (some [co 0,.str [],bv 0,bv 0,bv 0,bv 0]) none [(0,(co 8)),(4,d)]) λb=>ae 119 [c] λc=>aC (ai (some (23,1)) (some [.af]) 2 false [(0,e),(1,c)]) λc=>ae 60 [b,c] λb=>ah b))) R U
def Wh:Prop :=
 (ae 113 [a0] λb=>ae 115 [a0] λc=>ae 116 [a0,(.str ef)] λd=>aC (cx (some [(0,1),(1,1),(2,1),(3,1),(4,1),(5,1)]) (some [co 0,.str [],bv 0,bv 0,bv 0,bv 0]) none [(0,(co 5)),(1,c),(4,b)]) λb=>ae 117 [a0] λc=>aC (ai (some (23,1)) (some [.af]) 1 false [(0,c)]) λc=>ae 60 [b,c] λb=>ah b) R U
def Wj:Prop :=
 (ae 113 [a0] λb=>ae 114 [a0,(.str vR)] λc=>ak c (aC (cx (some [(0,1),(1,1),(2,1),(3,1),(4,1),(5,1)]) (some [co 0,.str [],bv 0,bv 0,bv 0,bv 0]) none [(0,(co 6)),(2,(bv 1)),(4,b)]) λc=>ae 60 [c,.af] λc=>ah c) (ae 114 [a0,(.str sN)] λc=>ak c (aC (cx (some [(0,1),(1,1),(2,1),(3,1),(4,1),(5,1)]) (some [co 0,.str [],bv 0,bv 0,bv 0,bv 0]) none [(0,(co 6)),(2,(bv 2)),(4,b)]) λc=>ae 60 [c,.af] λc=>ah c) (ae 114 [a0,(.str lq)] λc=>ak c (ae 175 [a0] λc=>aC (cx (some [(0,1),(1,1),(2,1),(3,1),(4,1),(5,1)]) (some [co 0,.str [],bv 0,bv 0,bv 0,bv 0]) none [(0,(co 6)),(2,c),(4,b)]) λc=>ae 60 [c,.af] λc=>ah c) (ae 116 [a0,(.str kh)] λc=>ae 175 [a0] λc=>aC (cx (some [(0,1),(1,1),(2,1),(3,1),(4,1),(5,1)]) (some [co 0,.str [],bv 0,bv 0,bv 0,bv 0]) none [(0,(co 7)),(2,c),(4,b)]) λb=>ae 60 [b,.af] λb=>ah b)))) R U
def Wm:Prop :=
 (ae 176 [a0] λb=>uC (λc d e=>ar .eql e (bv 1) λe=>ak e (ah c) (aC (cx (some [(0,1),(1,1),(2,1),(3,1),(4,1),(5,1)]) (some [co 0,.str [],bv 0,bv 0,bv 0,bv 0]) none [(0,(co 9)),(4,d)]) λd=>aC (ai (some (23,1)) (some [.af]) 1 false [(0,c)]) λc=>ae 60 [d,c] λc=>ah c)) λc=>gX [a0,b,(bv 0),(bv 1)] λb d e f g=>lD λh=>KG λi=>ae 173 [d,(.str dF)] λl=>jN (i) h (cU l d λm=>tQ l m λm=>yG l 1 m λm=>yH (cB m++[]) i (Be l m h λm=>eh l .add m (bv 1) λm=>cU l d λn=>tQ l n λn=>yG l 0 n λn=>yH (cB n++[]) i (Be l n h λh=>zu l h λh=>qk l .lss m h λh=>qm l h (.bool false) λh=>ak h (cG d λh=>bg 1 h λh=>ae 116 [d,(.str dF)] λi=>ae 177 [d] λl=>ak l (cG d λl=>cw 1 l λl=>cn l h λ_=>aQ (c e f g)) (wM (λh l m n=>ae 176 [h] λo=>ej (dH (some (43,6)) false l o) λl=>ar .add n (bv 1) λn=>aQ (b h l m n)) λb=>ar .eql g (bv 1) λh=>ak h (aQ (b d e i g)) (aQ (b d e f g)))) (aQ (c e f g)))))) R U
def Wo:Prop :=
 (dI a0 λb=>bg 0 b λc=>ar .eql c (co 3) λc=>lN c 0 b λd=>jr c .eql d (co 4) λd=>bX c (.bool true) d λc=>cU c a1 λd=>fR c 1 b λb=>lM c 178 [d,b] λb=>bX c b (.bool false) λb=>ah b) R U
def Wq:Prop :=
 (ca .geq a2 a0 λb=>cU b a2 λc=>cU b a1 λd=>qk b .leq c d λc=>bX b c (.bool false) λb=>ah b) R U
def Ws:Prop :=
 (cG a0 λb=>cw 0 b λb=>cw 0 b λb=>bg 0 b λb=>eN 43 6 b a1 λb=>dj 6 b λb=>dA [co 0,.str [],bv 0,bv 0,bv 0,bv 0] λc=>dr 6 c b λ_=>dA [.af] λb=>cG a0 λd=>cw 0 d λd=>dj 1 d λd=>ae 81 [d,a1] λd=>Ch d (λd e=>iH b λf=>aC (ai (some (3,1)) (some [bv 0]) 1 false [(0,d)]) λd=>ej (dH (some (3,1)) false f d) λd=>cn b d λ_=>aQ e.n) (bg 0 c λd=>ae 179 [d] λd=>ak d (dj 6 c λd=>iH b λe=>ae 180 [a0,d,e] λd=>ah (.az [])) (bg 0 c λd=>ae 181 [d] λd=>ak d (dj 6 c λd=>iH b λe=>ae 182 [a0,d,e] λd=>ah (.az [])) (bg 0 c λd=>ar .geq d (co 17) λd=>fR d 0 c λe=>eh d .leq e (co 25) λe=>bX d e (.bool false) λd=>ak d (dj 6 c λd=>iH b λe=>ae 183 [a0,d,e] λd=>ah (.az [])) (bg 0 c λd=>ar .geq d (co 9) λd=>fR d 0 c λe=>eh d .leq e (co 16) λe=>bX d e (.bool false) λd=>ak d (dj 6 c λd=>iH b λe=>ae 184 [a0,d,e] λd=>ah (.az [])) (bg 0 c λd=>ae 185 [d] λd=>ak d (dj 6 c λd=>iH b λe=>ae 186 [a0,d,e] λd=>ah (.az [])) (dj 6 c λd=>iH b λe=>ae 187 [a0,d,e] λd=>ah (.az []))))))) (λd=>Ed (Nat.beq d 0) (bg 0 c λd=>ae 179 [d] λd=>ak d (dj 6 c λd=>iH b λe=>ae 180 [a0,d,e] λd=>ah (.az [])) (bg 0 c λd=>ae 181 [d] λd=>ak d (dj 6 c λd=>iH b λe=>ae 182 [a0,d,e] λd=>ah (.az [])) (bg 0 c λd=>ar .geq d (co 17) λd=>fR d 0 c λe=>eh d .leq e (co 25) λe=>bX d e (.bool false) λd=>ak d (dj 6 c λd=>iH b λe=>ae 183 [a0,d,e] λd=>ah (.az [])) (bg 0 c λd=>ar .geq d (co 9) λd=>fR d 0 c λe=>eh d .leq e (co 16) λe=>bX d e (.bool false) λd=>ak d (dj 6 c λd=>iH b λe=>ae 184 [a0,d,e] λd=>ah (.az [])) (bg 0 c λd=>ae 185 [d] λd=>ak d (dj 6 c λd=>iH b λe=>ae 186 [a0,d,e] λd=>ah (.az [])) (dj 6 c λc=>iH b λb=>ae 187 [a0,c,b] λb=>ah (.az []))))))) (Ec)) (ah (.az []))) R U
def Wu:Prop :=
 (ae 93 [a0] λb=>ar .neq b (bv 0) λc=>ak c (ah (.az [(.str w_),b])) (aC (aW.new .box none (.wV 158 [.bE,.af])) λb=>cJ a0 λc=>oR [a0,b,a0,c,(bv 0)] λb c d e f g=>ca .lss g f λh=>ak h (eN 51 3 e g λh=>dj 3 h λh=>dA [co 0,.str [],bv 0] λi=>dr 3 i h λ_=>Eb (λh l m n o p=>bg 1 m λm=>ae 125 [l,m] λm=>ar .add p (bv 1) λm=>aQ (b h l n o m)) λb=>kT .gtr g (bv 0) λh=>cU h c λl=>cU h g λm=>eh h .sub m (bv 1) λm=>se h 51 3 l m λl=>QP h 3 l λl=>QP h 3 i λm=>lM h 188 [l,m] λl=>qm h l (.bool false) λh=>ak h (ae 189 [d,(co 32)] λh=>aQ (b c d i e f g)) (aQ (b c d i e f g))) (ae 126 [d] λb=>ar .gtr b (bv 2500) λb=>ak b (ah (.az [(.str w_),(bv 5)])) (ae 127 [d] λb=>ah (.az [b,(bv 0)]))))) R U
def Ww:Prop :=
 (ae 190 [a0] λb=>cG a0 λb=>bg 1 b λb=>ej (dH (some (5,1)) false b a1) λb=>cG a0 λc=>cw 1 c λc=>cn c b λ_=>aC (dK (some true) a1) λb=>ah (.az [b,.eu])) R U
def Wy:Prop :=
 (cG a0 λb=>bg 1 b λb=>cJ b λb=>ah b) R U
def HA:Prop :=
 (cG a0 λb=>bg 0 b λb=>eN 43 6 b a1 λb=>dj 6 b λb=>dA [co 0,.str [],bv 0,bv 0,bv 0,bv 0] λc=>dr 6 c b λ_=>cG a0 λb=>bg 0 b λb=>ae 67 [b,a1] λb=>bg 0 c λd=>ae 191 [d] λd=>ak d (ae 192 [a0,a1] λd=>ah (.az [])) (bg 0 c λd=>ar .eql d (co 5) λd=>ak d (bg 1 c λd=>ar .add d (.str vq) λd=>ae 193 [a0,d] λd=>di 3 1 b (bv 0) λd=>ae 194 [a0,d] λd=>ah (.az [])) (bg 0 c λd=>ae 139 [d] λd=>ak d (ae 194 [a0,a1] λd=>ah (.az [])) (bg 0 c λd=>ar .eql d (co 9) λd=>ak d (fU [a0,b,(bv 0)] λb d e f=>cJ e λg=>ca .lss f g λg=>ak g (uC (λg h i=>di 3 1 h i λl=>ae 195 [g,l,(bv 1)] λl=>ar .add i (bv 1) λi=>aQ (b g h i)) λb=>ar .gtr f (bv 0) λg=>ak g (ae 193 [d,(.str dF)] λg=>aQ (b d e f)) (aQ (b d e f))) (ah (.az []))) (bg 0 c λb=>ae 196 [b] λb=>ar .eql b (bv 1) λb=>ak b (ae 197 [a0,a1] λb=>ah (.az [])) (bg 0 c λb=>ae 196 [b] λb=>ar .lss b (bv 9) λb=>ak b (ae 198 [a0,a1] λb=>ah (.az [])) (ae 199 [a0,a1] λb=>ah (.az [])))))))) R U
def WA:Prop :=
 (ae 200 [a0] λb=>ar .neq b (bv 0) λc=>ak c (ah (.az [(.str w_),b])) (fU [a0,(.str w_),(bv 0)] λb c d e=>cJ c λf=>ca .lss e f λf=>ak f (uC (λf g h=>eN 51 3 f h λi=>bg 1 i λi=>ca .add g i λg=>ar .add h (bv 1) λh=>aQ (b f g h)) λb=>kT .gtr e (bv 0) λf=>cU f c λg=>cU f e λh=>eh f .sub h (bv 1) λh=>se f 51 3 g h λg=>QP f 3 g λg=>cU f c λh=>cU f e λi=>se f 51 3 h i λh=>QP f 3 h λh=>lM f 201 [g,h] λg=>qm f g (.bool false) λf=>ak f (ar .add d (.str SR) λf=>aQ (b c f e)) (aQ (b c d e))) (aC (dK (some true) d) λb=>ar .gtr b (bv 2500) λb=>ak b (ah (.az [(.str w_),(bv 5)])) (ah (.az [d,(bv 0)]))))) R U
def WC:Prop :=
 (dI a0 λb=>dI a1 λc=>dA [.bool false] λd=>cw 0 b λe=>bg 0 e λe=>iH c λf=>eN 43 6 e f λe=>dj 6 e λe=>dA [co 0,.str [],bv 0,bv 0,bv 0,bv 0] λf=>dr 6 f e λ_=>bg 0 f λe=>ej (fK (some (.i,204)) (some (.agg [.bool false,.bool false,.bool false,.af])) a2 e true) λe=>dm e 0 λg=>dm e 1 λe=>dA [.bool false,.bool false,.bool false,.af] λh=>dr 4 h g λ_=>fW e λe=>QR e 0 b λg=>lN e 0 g λg=>HV e g λg=>zhl e c λi=>Bf e .sub g i λg=>lN e 5 f λi=>wW e 122 [(bv 1),g,i] λg=>wY e g λg=>bX e (.bool true) g λe=>lN e 0 h λg=>lN e 1 f λi=>jr e .neq i (.str w_) λi=>KF e (bU .neq (BT.mk true false false none false) false g i) λg=>bX e (.bool true) g λe=>lN e 0 h λg=>fe e g λg=>fR g 1 f λi=>lM g 208 [i] λi=>zgt g i λi=>wX e g i (.bool false) λg=>bX e (.bool true) g λe=>ak e (cn d (.bool false) λ_=>fw ny d λe=>ah e) (bg 2 f λe=>ae 122 [(bv 0),(bv 1000000),e] λe=>fW e λe=>lN e 3 f λg=>wW e 122 [(bv 0),(bv 1000000),g] λg=>wY e g λg=>bX e (.bool true) g λe=>lN e 1 h λg=>wY e g λg=>fe e g λg=>fR g 2 f λi=>eh g .neq i (bv 0) λi=>wX e g i (.bool false) λg=>bX e (.bool true) g λe=>lN e 2 h λg=>wY e g λg=>fe e g λg=>fR g 3 f λi=>eh g .neq i (bv 0) λi=>wX e g i (.bool false) λg=>bX e (.bool true) g λe=>ak e (cn d (.bool false) λ_=>fw ny d λe=>ah e) (dA [.af] λe=>iH c λg=>ar .add g (bv 1) λg=>dA [bv 0] λi=>cn i g λ_=>dj 1 b λg=>iH c λl=>ae 81 [g,l] λg=>Ch g (λg l=>lD λm=>oe e m λn=>od 0 b λo=>od 0 o λo=>oe o m λp=>mz 43 6 p g λp=>od 0 p λp=>oe p m λq=>kN (ai (some (5,1)) (some [co 0]) 1 false [(0,q)]) λq=>ej (dH (some (5,1)) false n q) λn=>jN ((cB p++[])++((cB o++[])++((cB e++[])++[]))) m (cn e n λ_=>zql c λm=>gO 5 f λn=>mX .add m n λm=>mX .sub m g λm=>od 0 b λn=>gO 0 n λn=>mz 43 6 n g λn=>gO 5 n λn=>uE 122 [(bv 1),m,n] λm=>QS m λm=>ak m (cn d (.bool false) λ_=>aQ l.r) (cw 0 b λb=>bg 0 b λb=>eN 43 6 b g λb=>bg 5 b λb=>ca .add g b λb=>cn i b λ_=>aQ l.n))) (iH i λb=>iH c λg=>bg 5 f λl=>ca .add g l λg=>ca .eql b g λb=>zgl b e λg=>fR b 3 h λl=>ak (cq b true) (ae 209 [g,l] λg=>bX b g (.bool false) λg=>cn d g λ_=>fw ny d λg=>ah g) (bX b (.az []) (.bool false) λb=>cn d b λ_=>fw ny d λb=>ah b)) (λb=>Ed (Nat.beq b 0) (iH i λb=>iH c λc=>bg 5 f λf=>ca .add c f λc=>ca .eql b c λb=>zgl b e λc=>fR b 3 h λe=>ak (cq b true) (ae 209 [c,e] λc=>bX b c (.bool false) λc=>cn d c λ_=>fw ny d λc=>ah c) (bX b (.az []) (.bool false) λb=>cn d b λ_=>fw ny d λb=>ah b)) (Ec)) (fw ny d λb=>ah b)))) R U
def WE:Prop :=
 (ae 210 [a0,a1] λb=>ar .eql b (bv (-1)) λc=>ak c (ah a0) (ar .add b (bv 1) λc=>gX [a0,a1,b,c] λb c d e f=>cJ c λg=>ca .lss f g λg=>ak g (wM (λg h i l=>ar .add l (bv 1) λl=>aQ (b g h i l)) λb=>di 3 1 c f λg=>aC (kQ K.P d [g]) λh=>fW h λh=>ak h (eN 3 1 c e λh=>cn h g λ_=>ar .add e (bv 1) λg=>aQ (b c d g f)) (aQ (b c d e f))) (aC (eI false (some (3,1)) c (some e) none) λb=>ej (Gy (some (3,1)) (some [bv 0]) b) λ_=>aC (eI false (some (3,1)) c none (some e)) λb=>ah b))) R U
def WH:Prop :=
 (iH a1 λb=>ca .leq a0 b λb=>ah b) R U
def WJ:Prop :=
 (vw (λb=>ak b (ah (.bool true)) (ah (.bool false))) λb=>ar .eql a0 (co 2) λc=>ak c (aQ (b c)) (ar .eql a0 (co 3) λc=>ak c (aQ (b c)) (ar .eql a0 (co 4) λc=>ak c (aQ (b c)) (ar .eql a0 (co 5) λc=>ak c (aQ (b c)) (ar .eql a0 (co 12) λc=>ak c (aQ (b c)) (ar .eql a0 (co 13) λc=>ak c (aQ (b c)) (ar .eql a0 (co 14) λc=>ak c (aQ (b c)) (ar .eql a0 (co 16) λc=>ak c (aQ (b c)) (ar .eql a0 (co 31) λc=>ak c (aQ (b c)) (ar .eql a0 (co 32) λc=>ak c (aQ (b c)) (ar .eql a0 (co 33) λc=>ak c (aQ (b c)) (ar .eql a0 (co 34) λc=>ak c (aQ (b c)) (ar .eql a0 (co 37) λc=>aQ (b c)))))))))))))) R U
def WL:Prop :=
 (aC (cx (some [(0,1),(1,1),(2,1)]) (some [co 0,.str [],bv 0]) none [(0,(co 1)),(1,a0)]) λb=>ae 211 [b] λb=>ah b) R U
def WN:Prop :=
 (ae 141 [a0] λb=>fe b a0 λc=>jr b .eql c (co 12) λc=>bX b (.bool true) c λb=>fe b a0 λc=>jr b .eql c (co 14) λc=>bX b (.bool true) c λb=>fe b a0 λc=>jr b .eql c (co 25) λc=>bX b (.bool true) c λb=>fe b a0 λc=>jr b .eql c (co 26) λc=>bX b (.bool true) c λb=>ah b) R U
def WQ:Prop :=
 (ar .geq a0 (bv 0) λb=>cU b a0 λc=>eh b .leq c (bv 1000000) λc=>bX b c (.bool false) λb=>ah b) R U
def WS:Prop :=
 (mR [a0,(bv 0)] λb c d=>cJ c λe=>ca .lss d e λe=>ak e (di 5 1 c d λe=>ae 191 [e] λe=>fW e λe=>ak e (ah (.bool false)) (ar .add d (bv 1) λd=>aQ (b c d))) (ah (.bool true))) R U
def WU:Prop :=
 (ae 141 [a0] λb=>fe b a0 λc=>jr b .eql c (co 8) λc=>bX b (.bool true) c λb=>ah b) R U
def WW:Prop :=
 (fU [a0,a1,(bv 0)] λb c d e=>cJ c λf=>ca .lss e f λf=>ak f (di 5 1 c e λf=>ca .neq f d λf=>ak f (ah (.bool false)) (ar .add e (bv 1) λe=>aQ (b c d e))) (ah (.bool true))) R U
def WY:Prop :=
 (ar .eql a0 (co 6) λb=>fe b a0 λc=>jr b .eql c (co 7) λc=>bX b (.bool true) c λb=>ah b) R U
def W0:Prop :=
 (ar .geq a0 (co 9) λb=>cU b a0 λc=>eh b .leq c (co 34) λc=>bX b c (.bool false) λb=>ah b) R U
def W2:Prop :=
 (mR [a0,(bv 0)] λb c d=>cJ c λe=>ca .lss d e λe=>ak e (di 5 1 c d λe=>ae 141 [e] λe=>fW e λe=>ak e (ah (.bool false)) (ar .add d (bv 1) λd=>aQ (b c d))) (ah (.bool true))) R U
def W4:Prop :=
 (mR [a0,(bv 0)] λb c d=>cJ c λe=>ca .lss d e λe=>ak e (di 5 1 c d λe=>ae 142 [e] λe=>fW e λe=>ak e (ah (.bool false)) (ar .add d (bv 1) λd=>aQ (b c d))) (ah (.bool true))) R U
def W6:Prop :=
 (mR [a0,(bv 0)] λb c d=>cJ c λe=>ca .lss d e λe=>ak e (di 5 1 c d λe=>ae 142 [e] λe=>fW e λe=>cU e c λf=>cU e d λg=>Ea e 5 1 f g λf=>eh e .neq f (co 35) λf=>bX e f (.bool false) λe=>cU e c λf=>cU e d λg=>Ea e 5 1 f g λf=>eh e .neq f (co 36) λf=>bX e f (.bool false) λe=>ak e (ah (.bool false)) (ar .add d (bv 1) λd=>aQ (b c d))) (ah (.bool true))) R U
def W8:Prop :=
 (aC (ai (some (178,1)) (some [bv 0]) 1 false [(0,(bv 0))]) λb=>ae 151 [a0,b] λb=>fW b λb=>ah b) R U
def Xa:Prop :=
 (gX [a0,a1,a2,(bv 0)] λb c d e f=>iH d λg=>aC (dK (some true) g) λg=>ca .lss f g λg=>ak g (iH d λg=>aC (fL true none none g f) λg=>Eb (λh i l m n o=>ak o (ar .add m (bv 1) λo=>aQ (b h i l o)) (ar .eql n (co 126) λn=>ak n (iH i λn=>aC (eI true none n (some m) none) λn=>ae 148 [n,(.str pV)] λn=>dm n 0 λo=>dm n 1 λp=>dm n 2 λn=>aC (kQ K.P h [m,o]) λn=>fW n λn=>ak n (ah (.az [])) (aC (dK (some true) o) λn=>ca .add m n λn=>aQ (b h i l n))) (aC (kQ K.P h [m,(.str w_)]) λn=>fW n λn=>ak n (ah (.az [])) (iH l λn=>aC (kQ K.P n [m]) λn=>ca .add m n λm=>aQ (b h i l m))))) λb=>ar .eql g (co 32) λh=>ak h (aQ (b c d e f g h)) (ar .eql g (co 10) λh=>aQ (b c d e f g h))) (ah (.az []))) R U
def Xc:Prop :=
 (ae 212 [a0,a1] λb=>dm b 0 λc=>dm b 1 λd=>dm b 2 λb=>ah (.az [c,d,b])) R U
def Xe:Prop :=
 (mR [a0,(bv 0)] λb c d=>aC (dK (some true) c) λe=>ca .lss d e λe=>cU e c λf=>cU e d λg=>ql e (fL true none none f g) λf=>ql e (ai (some (178,1)) (some [bv 0]) 3 false [(0,(bv 2)),(1,(bv 3)),(2,(bv 4))]) λg=>lM e 151 [f,g] λf=>bX e f (.bool false) λe=>ak e (ar .add d (bv 1) λe=>aQ (b c e)) (ah d)) R U
def Xg:Prop :=
 (dA [co 0,.str [],bv 0] λb=>aC (cx none (some [.str [],.str []]) (some (2,9,1)) [(0,(.str bY)),(1,(.str gn))]) λc=>gX [a0,b,c,(bv 0)] λb c d e f=>ar .lss f (bv 2) λg=>ak g (aC (fL false (some (2,9,1)) ny e f) λg=>ae 213 [c,g] λh=>ak h (aC (cx (some [(0,1),(1,1),(2,1)]) (some [co 0,.str [],bv 0]) none [(0,(co 4)),(1,g)]) λg=>dr 3 d g λ_=>fw (some (true,3)) d λg=>ah (.az [g,(bv 0)])) (ar .add f (bv 1) λf=>aQ (b c d e f))) (ar .eql c (.str w_) λb=>fe b c λe=>KF b (fL true none none e (bv 0)) λe=>wW b 214 [(.str fG),e] λe=>jr b .lss e (bv 0) λe=>bX b (.bool true) e λb=>ak b (aC (cx (some [(0,1),(1,1),(2,1)]) (some [co 0,.str [],bv 0]) none []) λb=>dr 3 d b λ_=>fw (some (true,3)) d λb=>ah (.az [b,(bv 4)])) (aC (eI true none c none (some (bv 1))) λb=>aC (cx (some [(0,1),(1,1),(2,1)]) (some [co 0,.str [],bv 0]) none [(0,(co 4)),(1,b)]) λb=>dr 3 d b λ_=>fw (some (true,3)) d λb=>ah (.az [b,(bv 0)])))) R U
def Xi:Prop :=
 (ae 216 [a0] λb=>ae 215 [a1,b] λb=>ah b) R U
def Xk:Prop :=
 (aC (dK (some true) a0) λb=>gX [a0,(bv 0),b,(bv 0)] λb c d e f=>ca .lss f e λg=>ak g (aC (fL true none none c f) λg=>aC (ai (some (178,1)) (some [bv 0]) 1 false [(0,(bv 2))]) λh=>ae 151 [g,h] λg=>fW g λg=>ak g (ah (bv 4)) (ar .mul (bv 10) d λg=>aC (fL true none none c f) λh=>ar .sub h (co 48) λh=>aC (xh (some .i64) true false false h) λh=>ca .add g h λg=>aC (zM g (bv 1000001)) λg=>ar .add f (bv 1) λf=>aQ (b c g e f))) (aC (dK (some true) c) λb=>ar .gtr b (bv 1) λb=>cU b c λc=>ql b (fL true none none c (bv 0)) λc=>eh b .eql c (co 48) λc=>bX b c (.bool false) λb=>ak b (ah (bv 4)) (ar .gtr d (bv 1000000) λb=>ak b (ah (bv 3)) (ah (bv 0))))) R U
def adx:Prop :=
 (dI a0 λb=>dj 1 b λc=>ae 65 [c,a1] λc=>ar .neq c (bv 0) λd=>ak d (ah (.az [(.str w_),c])) (ar .gtr a1 (bv 0) λc=>ak c (bg 0 b λc=>ae 66 [c,a1] λc=>dm c 0 λd=>dm c 1 λc=>ah (.az [d,c])) (bg 0 b λc=>ae 67 [c,(bv 0)] λc=>gX [b,(.str w_),c,(bv 0)] λb c d e f=>cJ e λg=>ca .lss f g λg=>ak g (lD λg=>od 0 c λh=>oe h g λi=>mz 3 1 e f λl=>oe l g λm=>ae 66 [i,m] λi=>jN ((cB l++[])++((cB h++[])++[])) g (HW i 0 λg=>HW i 1 λh=>ar .neq h (bv 0) λi=>ak i (ah (.az [(.str w_),h])) (ar .add g (.str pV) λg=>ca .add d g λg=>ar .add f (bv 1) λf=>aQ (b c g e f)))) (aC (dK (some true) d) λb=>ar .gtr b (bv 2500) λb=>ak b (ah (.az [(.str w_),(bv 5)])) (ah (.az [d,(bv 0)])))))) R U
def ady:Prop :=
 (dI a0 λb=>bg 0 b λc=>cJ c λc=>ar .gtr c (bv 900) λc=>ak c (ah (bv 5)) (dj 1 b λc=>aC (cx (some [(0,1)]) (some [.af]) none [(0,c)]) λc=>ae 68 [c] λc=>fW c λc=>ak c (ah (bv 4)) (dj 1 b λb=>ae 69 [b] λb=>ak b (ah (bv 5)) (ah (bv 0))))) R U
def adz:Prop :=
 (dI a0 λb=>bg 0 b λb=>cJ b λc=>ar .gtr c (bv 900) λc=>ak c (ah (bv 5)) (ae 70 [b] λc=>fW c λc=>fe c b λd=>CD c 43 6 d (bv 0) λd=>lN c 0 d λd=>jr c .neq d (co 1) λd=>bX c (.bool true) d λc=>ak c (ah (bv 4)) (mR [b,(bv 0)] λb c d=>cJ c λe=>ca .lss d e λe=>ak e (ae 67 [c,d] λe=>oR [c,d,.af,e,(bv 0)] λd e f g h i=>cJ h λl=>ca .lss i l λl=>ak l (di 3 1 h i λl=>eN 43 6 e l λl=>bg 0 l λl=>aC (ai (some (5,1)) (some [co 0]) 1 false [(0,l)]) λl=>ej (dH (some (5,1)) false g l) λl=>ar .add i (bv 1) λi=>aQ (d e f l h i)) (ar .gtr f (bv 0) λd=>cU d e λh=>cU d f λi=>se d 43 6 h i λh=>fR d 0 h λh=>eh d .eql h (co 1) λh=>bX d h (.bool false) λd=>fe d e λh=>fe d f λi=>CD d 43 6 h i λh=>CC d 6 h λh=>wW d 71 [h] λh=>wY d h λh=>bX d (.bool true) h λd=>fe d e λh=>fe d f λi=>CD d 43 6 h i λh=>lN d 0 h λh=>fe d g λg=>wW d 72 [h,g] λg=>wY d g λg=>bX d (.bool true) g λd=>ak d (ah (bv 4)) (ar .add f (bv 1) λd=>aQ (b e d)))) (ae 73 [c] λb=>fU [c,b,(bv 0)] λb c d e=>cJ c λf=>ca .lss e f λf=>ak f (di 3 1 d e λf=>ar .gtr f (bv 60) λf=>ak f (ah (bv 5)) (ar .add e (bv 1) λe=>aQ (b c d e))) (ae 67 [c,(bv 0)] λb=>cJ b λb=>ar .gtr b (bv 24) λb=>ak b (ah (bv 5)) (ah (bv 0))))))) R U
def adA:Prop :=
 (dI a0 λb=>dA [.af] λc=>dA [bv 0] λd=>dA [bv 0] λe=>iH b λf=>ae 74 [f] λf=>dm f 0 λg=>dm f 1 λf=>ar .neq f (bv 0) λh=>ak h (cn c .af λ_=>cn d g λ_=>cn e f λ_=>fw ny c λf=>fw ny d λg=>fw ny e λh=>ah (.az [f,g,h])) (dA [.af] λf=>iH b λg=>ae 76 [g,(.func (.func 75) [] [f])] λg=>ahE g (λg h i=>ar .neq h (.str w_) λh=>ak h (aQ i.n) (iH b λb=>aC (eI true none b (some g) none) λb=>ae 77 [b] λb=>dm b 0 λh=>dm b 1 λb=>dA [co 0,.str [],bv 0] λl=>dr 3 l h λ_=>ahC (λh m n o p q r=>ar .neq r (bv 0) λs=>ak s (cn h .af λ_=>cn m p λ_=>cn n r λ_=>aQ i.r) (cw 2 q λh=>cn h p λ_=>iH o λh=>dj 3 q λm=>aC (ai (some (51,3)) (some [co 0,.str [],bv 0]) 1 false [(0,m)]) λm=>ej (dH (some (51,3)) false h m) λh=>cn o h λ_=>aQ i.n)) λh=>ar .eql b (bv 0) λi=>zgl i f λm=>zu i m λm=>eh i .eql m (bv 900) λm=>bX i m (.bool false) λi=>ak i (aQ (h c d e f g l (bv 5))) (aQ (h c d e f g l b)))) (iH f λb=>cn c b λ_=>cn d (bv 0) λ_=>cn e (bv 0) λ_=>fw ny c λb=>fw ny d λg=>fw ny e λh=>ah (.az [b,g,h])) (λb=>Ed (Nat.beq b 0) (iH f λb=>cn c b λ_=>cn d (bv 0) λ_=>cn e (bv 0) λ_=>fw ny c λb=>fw ny d λf=>fw ny e λg=>ah (.az [b,f,g])) (Ec)) (fw ny c λb=>fw ny d λc=>fw ny e λd=>ah (.az [b,c,d])))) R U
def adB:Prop :=
 (cJ a0 λb=>cJ a1 λc=>ca .neq b c λb=>ak b (ah (.bool false)) (fU [a0,a1,(bv 0)] λb c d e=>cJ c λf=>ca .lss e f λf=>ak f (mz 43 6 c e λf=>zqa 6 f λf=>mz 43 6 d e λg=>zqa 6 g λg=>kN (bU .neq (BT.mk false false false (some [.i,.s,.i,.i,.i,.i]) false) false f g) λf=>ak f (ah (.bool false)) (ar .add e (bv 1) λe=>aQ (b c d e))) (ah (.bool true)))) R U
def adC:Prop :=
 (cJ a0 λb=>ar .gtr b (bv 1000) λb=>ak b (ah (.bool false)) (mR [a0,(bv 0)] λb c d=>cJ c λe=>ca .lss d e λe=>ak e (eN 43 6 c d λe=>bg 1 e λe=>aC (dK (some true) e) λe=>ar .gtr e (bv 100) λe=>ak e (ah (.bool false)) (ar .add d (bv 1) λd=>aQ (b c d))) (ah (.bool true)))) R U
def adp:Prop :=
 (dA [.af] λb=>ae 53 [a0] λc=>dm c 0 λd=>dm c 1 λe=>dm c 2 λc=>ar .neq c (bv 0) λf=>ak f (aC (cx (some [(0,1)]) (some [.af]) none []) λf=>dr 1 b f λ_=>fw (some (true,1)) b λf=>ah (.az [f,e,c])) (fU [b,d,.af] λb c d e=>jl d λf=>gO 1 f λf=>jl d λg=>gO 0 g λg=>zw g λg=>mX .lss f g λf=>ak f (ae 54 [d,(.func (.func 55) [d] [])] λf=>dm f 0 λg=>dm f 1 λh=>dm f 2 λf=>fW f λf=>ak f (aC (cx (some [(0,1)]) (some [.af]) none []) λf=>dr 1 c f λ_=>fw (some (true,1)) c λf=>ah (.az [f,h,(bv 4)])) (aC (ai (some (87,1)) (some [.bE]) 1 false [(0,g)]) λf=>ej (dH (some (87,1)) false e f) λf=>aQ (b c d f))) (ae 56 [e] λb=>dm b 0 λd=>dm b 1 λb=>dA [.af] λe=>dr 1 e d λ_=>dj 1 e λd=>dr 1 c d λ_=>fw (some (true,1)) c λc=>ah (.az [c,(bv 0),b])))) R U
def adq:Prop :=
 (dA [.af] λb=>ae 57 [a0] λc=>dm c 0 λd=>dm c 1 λe=>dm c 2 λc=>ar .neq c (bv 0) λf=>ak f (aC (cx (some [(0,1)]) (some [.af]) none []) λf=>dr 1 b f λ_=>fw (some (true,1)) b λf=>ah (.az [f,e,c])) (aC (cx (some [(0,1),(1,1),(2,1)]) (some [.af,bv 0,.bool false]) none [(0,d)]) λc=>dI c λc=>oR [a0,b,d,c,.af] λb c d e f g=>cG f λh=>bg 1 h λh=>cJ e λi=>ca .lss h i λh=>ak h (ae 58 [f] λh=>ej (dH (some (43,6)) false g h) λh=>cG f λi=>bg 2 i λi=>ak i (aC (cx (some [(0,1)]) (some [.af]) none []) λi=>ae 59 [f,c] λl=>aC (wa (some (0,false,1)) l) λl=>dr 1 d i λ_=>fw (some (true,1)) d λi=>ah (.az [i,l,(bv 4)])) (aQ (b c d e f h))) (aC (cx (some [(0,1),(1,1),(2,1),(3,1),(4,1),(5,1)]) (some [co 0,.str [],bv 0,bv 0,bv 0,bv 0]) none [(0,(co 1))]) λb=>aC (ai (some (23,1)) (some [.af]) 1 false [(0,g)]) λc=>ae 60 [b,c] λb=>aC (cx (some [(0,1)]) (some [.af]) none [(0,b)]) λb=>dA [.af] λc=>dr 1 c b λ_=>dj 1 c λb=>ae 31 [b] λb=>ar .neq b (bv 0) λe=>ak e (aC (cx (some [(0,1)]) (some [.af]) none []) λe=>dr 1 d e λ_=>fw (some (true,1)) d λe=>ah (.az [e,(bv 0),b])) (dj 1 c λb=>dr 1 d b λ_=>fw (some (true,1)) d λb=>ah (.az [b,(bv 0),(bv 0)]))))) R U
def SF:Prop :=
 (dI a0 λb=>dI a1 λc=>bg 0 b λb=>bg 0 c λc=>ae 47 [b,c] λb=>ah b) R U
def adr:Prop :=
 (dI a0 λb=>bg 0 b λb=>ae 49 [b] λb=>ah b) R U
def ads:Prop :=
 (dI a0 λb=>dj 1 b λb=>ae 28 [b,(bv 0)] λb=>dm b 0 λc=>dm b 1 λb=>ah (.az [c,b])) R U
def adt:Prop :=
 (dI a0 λb=>dA [.af] λc=>bg 0 b λb=>ej (dH (some (43,6)) true .af b) λb=>aC (cx (some [(0,1)]) (some [.af]) none [(0,b)]) λb=>dr 1 c b λ_=>fw (some (true,1)) c λb=>ah b) R U
def adu:Prop :=
 (dI a0 λb=>dj 1 b λb=>ae 29 [b,(bv 0)] λb=>dm b 0 λc=>dm b 1 λb=>ah (.az [c,b])) R U
def adw:Prop :=
 (dI a0 λb=>dI a1 λc=>dj 1 b λb=>iH c λd=>ae 62 [b,d,(.func (.func 63) [] [c])] λb=>dm b 0 λc=>dm b 1 λb=>ah (.az [c,b])) R U
end
section
variable {a0 a1 a2 a3 a4 a5 a6:AV}{R:bi}{U:St}
def ab8(h:adD a0 R U):ag K 53 [a0] U R:=br Tryz.f53 (cm (aE (aM aU .z) aU)) h
def ab9(h:adE a0 R U):ag K 55 [a0] U R:=br Tryz.f55 (cm (aE (aM (cm (cm aU)) .z) (aO (.sq (some [0,3]) (aM bF bF) (cm (.sq (some [0,3]) (aM bF .z) (cm (cm (cm aU))))))))) h
def aca(h:adF a0 R U):ag K 57 [a0] U R:=br Tryz.f57 (aO (aE (aO (aM aU .z)) (aO aU))) h
def acb(h:adG a0 R U):ag K 58 [a0] U R:=br Tryz.f58 (cm (aE (aM (cm (cm aU)) .z) (.sq (some [0,3]) (aM bF bF) (cm (aO (.sq (some [0,3,5]) (aM (aO (aE (.bk (.lp [0,3,5] (aE (aM .z .z) (.bk bF)))) bF)) .z) (cm (cm (aO aU))))))))) h
def acd(h:adH a0 a1 R U):ag K 59 [a0,a1] U R:=br Tryz.f59 (aO (aE (aE (.rg [] [] (some ⟨(jU 10 0 []),[au 5 [0] [],au 6 [5] [0],au 7 [6] [1],au 8 [7] [2],au 9 [0] [],au 10 [9] [4],au 11 [10] [5],au 12 [11] [6],au 13 [12] [7],au 14 [8,13] [3,8]]⟩)) (.cd (aE (.rg [] [] (some ⟨(jU 13 0 [12]),[au 15 [0] [],au 16 [15] [0],au 17 [16] [1],au 18 [17] [2],au 19 [0] [],au 20 [19] [4],au 21 [20] [5],au 22 [21] [6],au 23 [18,22] [3,7],au 24 [23] [8],au 25 [24] [9],au 26 [25] [10],⟨0,67108880,4095⟩]⟩)) .z) .z)) aU)) h
def acf(h:adJ a0 a1 R U):ag K 60 [a0,a1] U R:=br Tryz.f60 (aE (.rg [2,4] [] none) (aE (.rg [7] [] none) (aE (.rg [5,8,9] [] none) (aE (aE (.rg [6] [] none) (.bk (.lp [1,5,6] (aE (aE (.rg [10,11,12,13] [] none) (.cd .z .z)) (aE (.bk (.rg [5,16,17,18,19,20,21] [] none)) (.rg [6,14,15] [] none)))))) (aE (.rg [22,23,24,25,26] [] none) (aE (.rg [4,27] [] none) .z)))))) h
def acg(h:adK a0 R U):ag K 61 [a0] U R:=br Tryz.f61 (aO aU) h
def ach(h:adL a0 a1 a2 R U):ag K 62 [a0,a1,a2] U R:=br Tryz.f62 (cm (aE (.bk (aM aU (aM aU .z))) (aE (aO (aM (aO aU) .z)) aU))) h
def aci(h:adM a0 a1 R U):ag K 63 [a0,a1] U R:=br Tryz.f63 (aO aU) h
def NI(h:SG a0 a1 R U):ag K 64 [a0,a1] U R:=br Tryz.f64 (aO (aE (aM (aE (.rg [] [] (some ⟨(jU 5 0 [3]),[au 19 [2] [],au 20 [] [],au 21 [19,20] [0,1],au 22 [21] [2],⟨64,4194304,15⟩]⟩)) (aO aU)) .z) (aO (aE (aO (.bk (.rf bF (.bk (aO (aE (aM aU .z) bF)))))) (aE (aM aU .z) aU))))) h
def acj(h:adN a0 a1 R U):ag K 65 [a0,a1] U R:=br Tryz.f65 (aO (aE (aO (aM aU .z)) (aE (aM aU .z) aU))) h
def ack(h:adO a0 a1 R U):ag K 66 [a0,a1] U R:=br Tryz.f66 (cm (aO aU)) h
def acm(h:adP a0 a1 R U):ag K 67 [a0,a1] U R:=br Tryz.f67 (cm (aE (aO (.bk (.lp [0,1,5,6] (aE (aM .z .z) (aE (.bk bF) bF))))) aU)) h
def acn(h:adQ a0 R U):ag K 68 [a0] U R:=br Tryz.f68 (aO (aE (aE (.rg [] [] (some ⟨(jU 27 0 []),[au 5 [1] [],au 6 [5] [0],au 7 [6] [1],au 8 [7] [2],au 9 [8] [3],au 10 [9] [4],au 11 [1,10] [5],⟨4096,3072,96⟩,⟨8192,5120,160⟩,⟨16384,9216,288⟩,au 15 [10,14] [5,9],au 16 [10,15] [5,10],au 17 [10,16] [5,11],au 18 [10,17] [5,12],au 19 [18] [5,13],au 20 [1,19] [14],au 21 [19,20] [14,15],au 22 [19,21] [14,16],au 23 [19,22] [14,17],au 24 [19,23] [14,18],au 25 [19,24] [14,19],au 26 [1,19] [14],au 27 [19,26] [14,21],au 28 [19,27] [14,22],au 29 [19,28] [14,23],au 30 [19,25,29] [14,20,24],au 31 [19,30] [14,25]]⟩)) (.cd aU .z)) (aO (aE (aO (.bk (.lp [1,3,36,37] (aO (aE (.cd .z .z) (aE (.bk (aO (aM aU .z))) bF)))))) aU)))) h
def aco(h:adR a0 R U):ag K 69 [a0] U R:=br Tryz.f69 (aE (.rg [1,2] [] none) (aE (.rg [3] [] none) (aE (aE (.rg [7,8,9,10] [] none) (.bk (.lp [1,2,3,8,9,10] (aE (.rg [11] [] none) (aE (.cd .z .z) (aE (.bk (aE (.rg [4,5,12,13,14] [] none) (aE (.rg [3,15,16,17] [] none) (aE (aE (.rg [18,19,20] [] none) (.cd (aE (.rg [2] [] none) .z) .z)) (.rg [3,21,22,23,24,25,26,27] [] none))))) (.rg [10,28] [] none))))))) (aE (.rg [6] [] none) (aE (aE (.rg [29,30,31] [] none) (.bk (.rf .z (.bk (.rg [33,34] [] none))))) (aE (.rg [2,35,36] [] none) .z)))))) h
def acp(h:adS a0 R U):ag K 70 [a0] U R:=br Tryz.f70 (aO (aE (aM aU .z) (aE (aO (.bk (.lp [0,3] (aE (aM .z .z) (aE (.bk (aM aU .z)) bF))))) (aE (aO (.bk (.lp [0,4] (aE (aM .z .z) (aE (.bk (aO (aE (.bk (.lp [0,4,5] (aE (aM .z .z) (.bk bF)))) (aM aU .z)))) bF))))) aU)))) h
def acq(h:adT a0 R U):ag K 71 [a0] U R:=br Tryz.f71 (aO (aE (aE (.rg [] [] (some ⟨(jU 18 0 []),[au 3 [1] [],au 4 [3] [0],au 5 [4] [1],au 6 [1] [],au 7 [6] [3],au 8 [7] [4],⟨512,288,36⟩,au 10 [9] [2,6],au 11 [1,10] [7],⟨4096,3072,384⟩,⟨8192,5120,640⟩,⟨16384,9216,1152⟩,au 15 [1,14] [11],⟨65536,49152,6144⟩,au 17 [14,16] [11,13],au 18 [14,17] [11,14],⟨524288,279552,34944⟩,au 20 [10,19] [7,16]]⟩)) (.cd aU .z)) (aE (aE (.rg [] [136,137] none) (.cd aU .z)) (aE (.rg [] [137] none) .z)))) h
def acr(h:adU a0 a1 R U):ag K 72 [a0,a1] U R:=br Tryz.f72 (cm (aE (aO (.bk (aM aU (.sq (some [1,5,8,13]) (aM .z bF) (.cd (aE (.rg [] [139] none) .z) (.sq (some [1,5,8,24]) (aM .z bF) (.cd (aE (.rg [] [140,141,142] none) .z) (aM (aE (.rg [] [143] none) .z) (aM (aE (.rg [] [144] none) .z) (aM (aE (.rg [] [144] none) .z) (.sq (some [1,5,8,76]) (aM .z (aM .z (aM .z (aM .z (aM .z (aM .z (aM .z (aM .z (aM .z bF))))))))) (.cd (aE (.rg [] [144] none) .z) (.sq (some [1,5,8,93]) (aM .z (aM .z (aM .z (aM .z bF)))) (.cd (aE (.rg [] [144] none) .z) (aM (aE (.rg [] [145] none) .z) (aM (aE (.rg [] [140,142] none) .z) (aM (aE (.rg [] [142] none) .z) (.sq (some [5,154]) (aM .z (aM .z (aM .z (aM .z (aM .z (aM .z (aM .z (aM .z (aM .z (aM .z bF)))))))))) (.cd aU .z))))))))))))))))))) aU)) h
def acs(h:adV a0 R U):ag K 73 [a0] U R:=br Tryz.f73 (aE (.rg [2] [] none) (aE (.rg [3,7,8,9] [] none) (aE (aE (.rg [4] [] none) (.bk (.lp [0,3,4] (aE (aE (.rg [10,11,12,13] [] none) (.cd .z .z)) (aE (.bk (aE (.rg [5,16,17,18] [] none) (aE (.rg [6] [] none) (.bk (.lp [0,3,4,5,6] (aE (aE (.rg [19,20,21,22] [] none) (.cd .z .z)) (aE (.bk (.rg [25,26,27,28,29,30,31,32,33,34,35] [] (some ⟨(jU 12 0 [11]),[au 25 [3] [],au 26 [5] [],au 27 [6] [],au 28 [26,27] [1,2],au 29 [28] [3],au 30 [3] [],au 31 [4] [],au 32 [30,31] [5,6],au 33 [32] [7],au 34 [33] [8],⟨34359738368,570425344,1023⟩,⟨0,51539607552,2047⟩]⟩))) (.rg [6,23,24] [] none)))))))) (.rg [4,14,15] [] none)))))) (aE (.rg [2,36] [] none) .z)))) h
def acu(h:adW a0 R U):ag K 74 [a0] U R:=br Tryz.f74 (aO (aE (aM aU .z) (aE (aO (.bk (.lp [0,9,10] (aO (aE (.cd .z .z) (aE (.bk (aO (aM aU .z))) bF)))))) aU))) h
def acv(h:adX a0 a1 R U):ag K 75 [a0,a1] U R:=br Tryz.f75 (aO aU) h
def acw(h:adY a0 a1 R U):ag K 76 [a0,a1] U R:=br Tryz.f76 (aO aU) h
def acx(h:adZ a0 R U):ag K 77 [a0] U R:=br Tryz.f77 (cm (aE (.bk (aM aU (aM aU (aM aU (aM aU (aM aU .z)))))) aU)) h
def acy(h:ad0 a0 a1 R U):ag K 81 [a0,a1] U R:=br Tryz.f81 (aO (aE (.rg [] [] (some ⟨(jU 11 0 [9,10]),[au 6 [3] [],au 7 [2] [],au 8 [7] [1],au 9 [8] [2],au 10 [3] [],⟨2048,1536,24⟩,au 12 [11] [5],au 13 [12] [6],au 14 [6,13] [0,7],au 5 [] [],⟨0,16416,1023⟩]⟩)) aU)) h
def acz(h:ad1 a0 R U):ag K 93 [a0] U R:=br Tryz.f93 (aO (aE (aM aU .z) (aE (aO (.bk (.lp [8,9,10] (aO (aE (.cd .z .z) (aE (.bk (aO (aM aU .z))) bF)))))) aU))) h
def acA(h:ad2 a0 a1 R U):ag K 99 [a0,a1] U R:=br Tryz.f99 (aO aU) h
def VG(h:VF a0 a1 R U):ag K 100 [a0,a1] U R:=br Tryz.f100 (aO (aE (aM aU .z) (aO aU))) h
def VI(h:VH a0 R U):ag K 101 [a0] U R:=br Tryz.f101 (aO aU) h
def VK(h:VJ a0 a1 R U):ag K 102 [a0,a1] U R:=br Tryz.f102 (aM bF .z) h
def VM(h:VL a0 a1 R U):ag K 103 [a0,a1] U R:=br Tryz.f103 (cm aU) h
def VO(h:VN a0 R U):ag K 104 [a0] U R:=br Tryz.f104 (aO (aE (aM aU .z) (cm (cm (aO aU))))) h
def VQ(h:VP a0 a1 R U):ag K 105 [a0,a1] U R:=br Tryz.f105 (aO aU) h
def Kh(h:Nx a0 a1 a2 R U):ag K 106 [a0,a1,a2] U R:=br Tryz.f106 (aO (.bk (.lp [0,1,2] (aE (aM .z .z) (.bk bF))))) h
def VS(h:VR a0 R U):ag K 107 [a0] U R:=br Tryz.f107 (cm (cm aU)) h
def VU(h:VT a0 R U):ag K 108 [a0] U R:=br Tryz.f108 (cm (.sq (some [3]) (.bk (aM bF (aM bF (aM bF (aO bF))))) aU)) h
def VW(h:VV a0 R U):ag K 109 [a0] U R:=br Tryz.f109 (cm (cm (.sq (some [3,4]) (.bk (.lp [0,3,4] (aE (aM .z .z) (.bk (aE (aO (aE (.rg [] [61] none) (.cd .z .z))) (aO bF)))))) (aE (aM aU .z) aU)))) h
def VY(h:VX a0 R U):ag K 110 [a0] U R:=br Tryz.f110 (aE (.rg [2] [] none) (aE (.rg [3,6,7,8,9,10] [] none) (aE (aE (.rg [11,12,13,14,15,16] [] none) (.bk (.lp [3,14,15,16] (aE (.rg [17] [] none) (aE (.cd .z .z) (aE (.bk (aE (.rg [5,18,19] [] none) (.rg [3,20,21,22,23] [] none))) (.rg [16,24] [] none))))))) (aE (.rg [25,26,27,28,29] [] none) (aE (.rg [2,30] [] none) .z))))) h
def V4(h:VZ a0 R U):ag K 111 [a0] U R:=br Tryz.f111 (aO (aE (aM aU .z) (aE (aO (.bk (.lp [0,4] (aE (aM .z .z) (aE (.bk (aM aU .z)) bF))))) aU))) h
def V6(h:V5 a0 R U):ag K 112 [a0] U R:=br Tryz.f112 (cm (aO (aE (.bk (.lp [0,6,7,8] (aE (aM .z .z) (.bk (aE (aM aU .z) (aE (aM (cm aU) .z) (aO (.sq (some [0,6,7,8,10,11]) (aM bF .z) (aE (aM aU .z) (aO bF)))))))))) aU))) h
def V8(h:V7 a0 R U):ag K 113 [a0] U R:=br Tryz.f113 (aO (aE (aE (.rg [] [] (some ⟨(jU 10 0 []),[au 3 [0] [],au 4 [3] [0],au 5 [4] [1],au 6 [5] [2],au 7 [0] [],au 8 [7] [4],au 9 [8] [5],au 10 [9] [6],au 11 [10] [7],⟨4096,2112,264⟩]⟩)) (.cd (aE (.rg [] [] (some ⟨(jU 12 0 []),[au 13 [0] [],au 14 [13] [0],au 15 [14] [1],au 16 [15] [2],au 17 [0] [],au 18 [17] [4],au 19 [18] [5],au 20 [19] [6],au 21 [16,20] [3,7],au 22 [21] [8],au 23 [22] [9],⟨4,8388608,2047⟩]⟩)) .z) .z)) aU)) h
def Wa(h:V9 a0 a1 R U):ag K 114 [a0,a1] U R:=br Tryz.f114 (aO (aE (aM aU .z) (aO aU))) h
def Wc(h:Wb a0 R U):ag K 115 [a0] U R:=br Tryz.f115 (aO (aE (aM (aO aU) .z) (aO (aE (.rg [] [] (some ⟨(jU 13 0 []),[au 16 [0] [],au 17 [16] [0],au 18 [17] [1],au 19 [18] [2],au 20 [0] [],au 21 [20] [4],au 22 [21] [5],au 23 [22] [6],au 24 [23] [7],au 25 [19,24] [3,8],au 26 [25] [9],au 27 [26] [10],⟨4,134217728,4095⟩]⟩)) .z)))) h
def We(h:Wd a0 a1 R U):ag K 116 [a0,a1] U R:=br Tryz.f116 (cm (aE (aM (aO aU) .z) (aO aU))) h
def Wg(h:Wf a0 R U):ag K 117 [a0] U R:=br Tryz.f117 (cm (aE (aM aU .z) (aO (aE (.bk (.lp [0,3,4] (aE (aM .z .z) (.bk bF)))) (cm aU))))) h
def Wi(h:Wh a0 R U):ag K 118 [a0] U R:=br Tryz.f118 (cm (cm aU)) h
def Wl(h:Wj a0 R U):ag K 119 [a0] U R:=br Tryz.f119 (cm (aE (.bk (aM aU (aM aU (aM aU .z)))) (aO aU))) h
def Wn(h:Wm a0 R U):ag K 120 [a0] U R:=br Tryz.f120 (cm (.sq (some [3,4,5]) (.bk (.lp [0,3,4,5] (aE (aE (.rb [] ⟨(jU 15 0 [1]),[au 10 [0] [],au 11 [10] [0],au 12 [11] [1],au 13 [0,12] [2],⟨16384,12288,12⟩,⟨32768,20480,20⟩,⟨65536,36864,36⟩,au 17 [12,16] [2,6],au 18 [0,12] [2],au 19 [12,18] [2,8],au 20 [12,19] [2,9],au 21 [12,20] [2,10],au 22 [12,21] [2,11],⟨8388608,4329472,4228⟩,au 24 [12,23] [2,13]]⟩) (.cd .z .z)) (.bk (cm (aE (aM aU .z) (.sq (some [0,3,4,5]) (aM bF .z) (aO bF)))))))) (aE (aM aU .z) aU))) h
def Wp(h:Wo a0 a1 R U):ag K 121 [a0,a1] U R:=br Tryz.f121 (aO (aE (.rg [] [178] none) .z)) h
def Wr(h:Wq a0 a1 a2 R U):ag K 122 [a0,a1,a2] U R:=br Tryz.f122 (aO aU) h
def Wt(h:Ws a0 a1 R U):ag K 123 [a0,a1] U R:=br Tryz.f123 (cm (aE (aO (.bk (.rf bF (.bk bF)))) (.bk (aM bF (aM bF (aM bF (aM bF (aM bF bF)))))))) h
def Wv(h:Wu a0 R U):ag K 124 [a0] U R:=br Tryz.f124 (aO (aE (aO (aM aU .z)) (aO (aE (aO (.bk (.lp [0,5,13,14,15] (aO (aE (.cd .z .z) (aE (.bk (aO (.sq (some [0,5,7,13,14,15]) (aE (.rg [] [] (some ⟨(jU 11 0 []),[au 20 [6] [],au 21 [20] [0],au 22 [21] [1],au 23 [0,22] [2],au 24 [6,22] [2],au 25 [22,24] [2,4],⟨67108864,46137344,44⟩,au 27 [22,26] [2,6],au 28 [7,22] [2],au 29 [22,27,28] [2,7,8],au 30 [22,29] [2,9]]⟩)) (.cd bF .z)) bF))) bF)))))) (aE (aM aU .z) aU))))) h
def Wx(h:Ww a0 a1 R U):ag K 125 [a0,a1] U R:=br Tryz.f125 (cm (aO aU)) h
def Wz(h:Wy a0 R U):ag K 126 [a0] U R:=br Tryz.f126 (aO aU) h
def DX(h:HA a0 a1 R U):ag K 128 [a0,a1] U R:=br Tryz.f128 (cm (.bk (aM bF (aM (aO bF) (aM bF (aM (aO (.bk (.lp [0,5,6] (aE (aM .z .z) (aE (.bk (.sq (some [0,5,6]) (aM bF .z) bF)) bF))))) (aM bF (aM bF bF)))))))) h
def WB(h:WA a0 R U):ag K 129 [a0] U R:=br Tryz.f129 (aO (aE (aO (aM aU .z)) (aO (aE (aO (.bk (.lp [0,5,6] (aE (aM .z .z) (aE (.bk (.sq (some [0,5,6]) (aE (.rg [] [] (some ⟨(jU 14 0 []),[au 18 [6] [],au 19 [18] [0],au 20 [19] [1],au 21 [0,20] [2],au 22 [6,20] [2],au 23 [20,22] [2,4],⟨16777216,11534336,44⟩,au 25 [20,24] [2,6],au 26 [0,20] [2],au 27 [6,20] [2],au 28 [20,26,27] [2,8,9],au 29 [20,28] [2,10],au 30 [20,25,29] [2,7,11],au 31 [20,30] [2,12]]⟩)) (.cd bF .z)) bF)) bF))))) (aE (aM aU .z) aU))))) h
def WD(h:WC a0 a1 a2 R U):ag K 131 [a0,a1,a2] U R:=br Tryz.f131 (cm (aO (aE (aE (.rg [] [122,208] none) (.cd aU .z)) (aE (aE (.rg [] [122] none) (.cd aU .z)) (cm (aE (aO (.bk (.rf bF (.bk (aE (.rg [] [] (some ⟨(jU 11 0 [9,10]),[au 94 [10] [],au 95 [3] [],au 96 [95] [1],au 97 [96] [2],au 98 [12] [],au 99 [97,98] [3,4],au 100 [99] [5],au 101 [100] [6],au 102 [101] [7],au 103 [94,102] [0,8],⟨0,10141204801825835211973625644032,1023⟩]⟩)) (aE (aE (.rg [] [] (some ⟨(jU 15 0 []),[au 104 [4] [],au 105 [7] [],au 106 [105] [1],au 107 [104,106] [0,2],au 108 [12] [],au 109 [107,108] [3,4],au 110 [3] [],au 111 [110] [6],au 112 [111] [7],au 113 [12] [],au 114 [112,113] [8,9],au 115 [114] [10],au 116 [115] [11],au 117 [109,116] [5,12],au 118 [117] [13]]⟩)) (.cd aU .z)) bF)))))) aU)))))) h
def WG(h:WE a0 a1 R U):ag K 132 [a0,a1] U R:=br Tryz.f132 (cm (aE (aM aU .z) (aE (aO (.bk (.lp [0,1,5,6] (aE (aM .z .z) (.sq (some [0,1,5,6]) (.bk (aO (aM (aO bF) .z))) bF))))) (aO aU)))) h
def WI(h:WH a0 a1 R U):ag K 133 [a0,a1] U R:=br Tryz.f133 (aO aU) h
def WK(h:WJ a0 R U):ag K 134 [a0] U R:=br Tryz.f134 (aO (aE (aO (.bk (.sq (some [4]) (aM .z (aM .z (aM .z (aM .z (aM .z (aM .z (aM .z (aM .z (aM .z (aM .z (aM .z (aM .z bF)))))))))))) (.cd aU .z)))) aU)) h
def WM(h:WL a0 R U):ag K 135 [a0] U R:=br Tryz.f135 (aO aU) h
def WO(h:WN a0 R U):ag K 136 [a0] U R:=br Tryz.f136 (aO aU) h
def WR(h:WQ a0 R U):ag K 137 [a0] U R:=br Tryz.f137 (aO aU) h
def WT(h:WS a0 R U):ag K 138 [a0] U R:=br Tryz.f138 (aO (aE (aO (.bk (.lp [0,3] (aE (aM .z .z) (aE (.bk (aM aU .z)) bF))))) aU)) h
def WV(h:WU a0 R U):ag K 139 [a0] U R:=br Tryz.f139 (aO aU) h
def WX(h:WW a0 a1 R U):ag K 140 [a0,a1] U R:=br Tryz.f140 (aO (aE (aO (.bk (.lp [0,1,5] (aE (aM .z .z) (aE (.bk (aM aU .z)) bF))))) aU)) h
def WZ(h:WY a0 R U):ag K 141 [a0] U R:=br Tryz.f141 (aO aU) h
def W1(h:W0 a0 R U):ag K 142 [a0] U R:=br Tryz.f142 (aO aU) h
def W3(h:W2 a0 R U):ag K 143 [a0] U R:=br Tryz.f143 (aO (aE (aO (.bk (.lp [0,3] (aE (aM .z .z) (aE (.bk (aM aU .z)) bF))))) aU)) h
def W5(h:W4 a0 R U):ag K 144 [a0] U R:=br Tryz.f144 (aO (aE (aO (.bk (.lp [0,3] (aE (aM .z .z) (aE (.bk (aM aU .z)) bF))))) aU)) h
def W7(h:W6 a0 R U):ag K 145 [a0] U R:=br Tryz.f145 (aO (aE (aO (.bk (.lp [0,3] (aE (aM .z .z) (aE (.bk (aM aU .z)) bF))))) aU)) h
def W9(h:W8 a0 R U):ag K 146 [a0] U R:=br Tryz.f146 (aO aU) h
def Xb(h:Xa a0 a1 a2 R U):ag K 147 [a0,a1,a2] U R:=br Tryz.f147 (aO (.bk (.lp [0,1,2,4] (aE (aM .z .z) (.bk (aO (.bk (.sq (some [0,1,2,4,14,24]) (aM .z bF) (.cd bF (aM (aO (aE (aM .z .z) bF)) (aE (aM .z .z) bF))))))))))) h
def Xd(h:Xc a0 a1 R U):ag K 148 [a0,a1] U R:=br Tryz.f148 (aO aU) h
def Xf(h:Xe a0 R U):ag K 149 [a0] U R:=br Tryz.f149 (aO (aE (.bk (.lp [0,2] (aE (aE (.rg [] [151] none) (.cd .z .z)) (.bk bF)))) aU)) h
def Xh(h:Xg a0 R U):ag K 150 [a0] U R:=br Tryz.f150 (aO (aE (aO (.bk (.lp [0,2,6,7] (aO (aE (.cd .z .z) (aE (.bk (aO (aM aU .z))) bF)))))) (aE (aE (.rg [] [214] none) (.cd aU .z)) aU))) h
def Xj(h:Xi a0 a1 R U):ag K 151 [a0,a1] U R:=br Tryz.f151 (aO aU) h
def Xl(h:Xk a0 R U):ag K 152 [a0] U R:=br Tryz.f152 (cm (aE (aO (.bk (.lp [0,3,6,7] (aO (aE (.cd .z .z) (aE (.bk (aO (aE (aM aU .z) bF))) bF)))))) (aE (.bk (aM aU (aM aU .z))) aU))) h
def ab2(h:adx a0 a1 R U):ag K 29 [a0,a1] U R:=br Tryz.f29 (aO (aE (aO (aM aU .z)) (aE (aM aU .z) (cm (aE (aO (.bk (.lp [2,7,8,9] (aE (aM .z .z) (aE (.bk (aE (.rg [] [] (some ⟨(jU 12 0 [6]),[au 36 [2] [],au 37 [36] [0],au 38 [8] [],au 39 [9] [],au 40 [38,39] [2,3],au 41 [40] [4],au 42 [37,41] [1,5],au 35 [42] [6],au 43 [35] [7],au 44 [35] [7],⟨1024,8796093022208,511⟩,⟨2048,17592186044416,2047⟩]⟩)) (aE (aM aU .z) bF))) bF))))) (aE (aM aU .z) aU)))))) h
def ab3(h:ady a0 R U):ag K 30 [a0] U R:=br Tryz.f30 (aO (aE (.bk (aM aU (aM aU (aM aU .z)))) aU)) h
def ab4(h:adz a0 R U):ag K 31 [a0] U R:=br Tryz.f31 (cm (aE (aM aU .z) (aE (aM aU .z) (aE (aO (.bk (.lp [3,4] (aE (aM .z .z) (aE (.bk (cm (aE (aO (.bk (.lp [3,4,5,6,7] (aE (aM .z .z) (aE (.bk bF) bF))))) (aE (.rg [] [71,72] none) (.cd aU .z))))) bF))))) (aO (aE (aO (.bk (.lp [3,8,9] (aE (aM .z .z) (aE (.bk (aM aU .z)) bF))))) (aE (aM aU .z) aU))))))) h
def ab5(h:adA a0 R U):ag K 33 [a0] U R:=br Tryz.f33 (aO (aE (aO (aM aU .z)) (cm (aE (aO (.bk (.rf (aO bF) (.bk (aE (aM .z .z) (aO (.sq (some [2,3,4,7,9,11,12]) (aM bF .z) (aE (aM aU .z) (aO bF))))))))) aU)))) h
def ab6(h:adB a0 a1 R U):ag K 47 [a0,a1] U R:=br Tryz.f47 (aO (aE (aM aU .z) (aE (aO (.bk (.lp [0,1,5] (aE (aM .z .z) (aE (.bk (aE (.rg [] [] (some ⟨(jU 9 0 []),[au 17 [0] [],au 18 [5] [],au 19 [17,18] [0,1],au 20 [19] [2],au 21 [1] [],au 22 [5] [],au 23 [21,22] [4,5],au 24 [23] [6],au 25 [20,24] [3,7]]⟩)) (.cd aU .z))) bF))))) aU))) h
def ab7(h:adC a0 R U):ag K 49 [a0] U R:=br Tryz.f49 (aO (aE (aM aU .z) (aE (aO (.bk (.lp [0,3] (aE (aM .z .z) (aE (.bk (aM aU .z)) bF))))) aU))) h
def abV(h:adp a0 R U):ag K 18 [a0] U R:=br Tryz.f18 (cm (aE (aM aU .z) (aO (aE (.bk (.lp [2,5,8] (aE (aE (.rg [] [] (some ⟨(jU 10 0 []),[au 24 [5] [],au 25 [24] [0],au 26 [25] [1],au 27 [26] [2],au 28 [5] [],au 29 [28] [4],au 30 [29] [5],au 31 [30] [6],au 32 [31] [7],au 33 [27,32] [3,8]]⟩)) (.cd .z .z)) (.bk (aO (aE (aM aU .z) bF)))))) (aO aU))))) h
def abW(h:adq a0 R U):ag K 19 [a0] U R:=br Tryz.f19 (cm (aE (aM aU .z) (cm (aE (.bk (.lp [0,2,5,8,9] (aE (aM .z .z) (.bk (aO (aM aU .z)))))) (aO (aE (aO (aM aU .z)) aU)))))) h
def NG(h:SF a0 a1 R U):ag K 22 [a0,a1] U R:=br Tryz.f22 (aO aU) h
def abX(h:adr a0 R U):ag K 24 [a0] U R:=br Tryz.f24 (aO aU) h
def abY(h:ads a0 R U):ag K 25 [a0] U R:=br Tryz.f25 (aO aU) h
def abZ(h:adt a0 R U):ag K 26 [a0] U R:=br Tryz.f26 (aE (.rg [1,2] [] none) (aE (.rg [3,4,5,6] [] none) .z)) h
def ab0(h:adu a0 R U):ag K 27 [a0] U R:=br Tryz.f27 (aO aU) h
def ab1(h:adw a0 a1 R U):ag K 28 [a0,a1] U R:=br Tryz.f28 (aO aU) h
end
end Go.Rip
