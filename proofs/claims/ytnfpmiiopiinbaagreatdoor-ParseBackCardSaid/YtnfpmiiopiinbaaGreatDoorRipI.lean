/- Lemmas for the proof: no conditions. -/
import Derived.Test.YtnfpmiiopiinbaaGreatDoorRipZz
import Derived.Test.YtnfpmiiopiinbaaGreatDoorRipD
import Derived.Lib.Atoi
set_option linter.unusedVariables false
set_option linter.unusedSimpArgs false
set_option linter.loopingSimpArgs false
namespace Go.Rip
abbrev aK:=List UInt8
structure Tk where
 k:Nat
 s:aK
 at_:Nat
 deriving DecidableEq
structure Nd where
 kind:Int
 text:aK
 n:Int
 m:Int
 at_:Int
 size:Int
 deriving DecidableEq
def gJ (c:UInt8):Bool:=decide (48 <= c.toNat/\c.toNat <= 57)
def lI (c:UInt8):Bool:=decide (97 <= c.toNat/\c.toNat <= 122)
def GG (c:UInt8):Bool:=decide (65 <= c.toNat/\c.toNat <= 90)
def dm (c:UInt8):Bool:=gJ c || lI c || GG c
def lH (c:UInt8):Bool:=decide (c.toNat=10\/32 <= c.toNat/\c.toNat <= 126)
def IK (s:aK):Int:=s.foldl (fun n c=>min (10 * n+((c.toNat:Int) - 48)) 1000001) 0
def vG (s:aK):Int:=s.foldl (fun n c=>10 * n+((c.toNat:Int) - 48)) 0
def pd (s:aK):Int:=if s.all gJ=false then 4 else if 1 < s.length/\s.head?=some 48 then 4 else if 1000000 < IK s then 3 else 0
def ni:List aK:=[yp,uN,ow,jH,gq,sO,ga,sE,eU,eg,dE,rR,yq,gw,oe,dI,kK,ku,jI,ij,kQ,pJ,hZ,agt,Cr,yr,fB,oy,dB,fW]
def ke:List aK:=[bV,fO,gY,sN,sM,rP,tS,lM,cP,cC,mO,rQ,cV,cH,ez,vw]
def iI (s:aK):Int × Nat × aK :=
 let w:=s.takeWhile dm
 match w with
 | []=>match ke.find? fun x=>x.isPrefixOf s with
   | some x=>(0,4,x)
   | none=>(4,0,[])
 | c::_=>if gJ c then (pd w,2,w) else if lI c=false then (4,0,[]) else if w ∈ ni then (0,3,w) else if 12 < w.length then (4,0,[]) else (0,1,w)
inductive GY where
 | ok (l:List Tk)
 | bad (p:Nat) (e:Int)
def fL:Nat->aK->Nat->List Tk->GY
 | 0,_,_,l=>.ok l
 | f+1,s,p,l=>match s.drop p with
   | []=>.ok l
   | c::r=>if c.toNat=32\/c.toNat=10 then fL f s (p+1) l
     else if c.toNat=126 then fL f s (p+((c::r).takeWhile fun c=>c.toNat ≠ 10).length) l
     else match iI (c::r) with
      | (e,k,t)=>if e ≠ 0 then .bad p e else if l.length=900 then .bad p 5 else fL f s (p+t.length) (l++[⟨k,t,p⟩])
def te (s:aK):Nat × Int:=if 2500 < s.length then (0,5) else match s.findIdx? (fun c=>!lH c) with | some i=>(i,2) | none=>(0,0)
def jY (s:aK):GY:=match te s with
 | (p,e)=>if e ≠ 0 then .bad p e else fL s.length s 0 []
inductive PR (α:Type) where
 | ok (a:α) (i:Nat)
 | bad (i:Nat)
 | out
def PR.bind {α β:Type} (x:PR α) (f:α->Nat->PR β):PR β:=match x with
 | .ok a i=>f a i
 | .bad i=>.bad i
 | .out=>.out
def node (kind:Int) (text:aK) (n m at_:Int) (kids:List Nd):List Nd:=⟨kind,text,n,m,at_,(kids.length:Int)+1⟩::kids
section
variable (L:List Tk) (E:Nat)
def de (i:Nat):Int:=match L[i]? with | some t=>t.at_ | none=>E
def bj (i:Nat) (w:aK):Bool:=match L[i]? with | some t=>(t.k == 3 || t.k == 4) && t.s == w | none=>false
def qx (i:Nat) (k:Nat):Bool:=match L[i]? with | some t=>t.k == k | none=>false
def tj (i:Nat):Bool:=bj L i dI || bj L i ga || bj L i eg
def bL (w:aK) (i:Nat):PR Unit:=if bj L i w=true then .ok () (i+1) else .bad i
def gK (i:Nat):PR aK:=match L[i]? with | some t=>if t.k=1 then .ok t.s (i+1) else .bad i | none=>.bad i
def jm (i:Nat):PR Int:=match L[i]? with | some t=>if t.k=2 then .ok (vG t.s) (i+1) else .bad i | none=>.bad i
def mN (one:Nat->PR (List Nd)):Nat->List Nd->Nat->PR (List Nd)
 | 0,_,_=>.out
 | f+1,acc,i=>if bj L i cV=true then (one (i+1)).bind fun b j=>mN one f (acc++b) j else .ok acc i
def jT (one:Nat->PR (List Nd)) (f:Nat) (i:Nat):PR (List Nd):=(one i).bind fun a j=>mN L one f a j
def fX (i:Nat):PR (List Nd) :=
 if bj L i sO=true then .ok (node 6 [] 1 0 (de L E i) []) (i+1)
 else if bj L i ow=true then .ok (node 6 [] 2 0 (de L E i) []) (i+1)
 else if bj L i jH=true then (jm L (i+1)).bind fun n j=>.ok (node 7 [] n 0 (de L E i) []) j
 else (bL L ku i).bind fun _ j=>(jm L j).bind fun n j=>.ok (node 6 [] n 0 (de L E i) []) j
def jD (f:Nat) (i:Nat):PR (List Nd) :=
 if bj L i cP=true then (jT L (fX L E) f (i+1)).bind fun a j=>(bL L cC j).bind fun _ j=>(bL L fO j).bind fun _ j=>(fX L E j).bind fun b j=>.ok (node 8 [] 0 0 (de L E i) (a++b)) j
 else fX L E i
def j9 (f:Nat) (i:Nat):PR (List Nd):=(gK L i).bind fun x j=>(bL L ez j).bind fun _ j=>(jD L E f j).bind fun a j=>.ok (node 5 x 0 0 (de L E i) a) j
def lX (i:Nat):PR (List Nd):=(gK L i).bind fun x j=>.ok (node 37 x 0 0 (de L E i) []) j
def pg (lev:Nat) (i:Nat):Option Int :=
 if lev=2 then if bj L i Cr=true then some 17 else none
 else if lev=3 then if bj L i yp=true then some 18 else none
 else if lev=5 then if bj L i gY=true then some 20 else if bj L i sN=true then some 21 else none
 else if lev=6 then if bj L i sM=true then some 22 else if bj L i rP=true then some 23 else none
 else if lev=7 then if bj L i tS=true then some 24 else none
 else if lev=8 then if bj L i uN=true then some 25 else none
 else none
mutual
def ia:Nat->Nat->PR (List Nd)
 | 0,_=>.out
 | f+1,i=>(bD f i).bind fun a j=>oO f (de L E j) a 1 j
def oO:Nat->Int->List Nd->Nat->Nat->PR (List Nd)
 | 0,_,_,_,_=>.out
 | f+1,at_,acc,many,i=>if bj L i cH=true/\i+1 < L.length/\tj L (i+1)=false then (bD f (i+1)).bind fun b j=>oO f at_ (acc++b) (many+1) j
   else .ok (if many=1 then acc else node 9 [] 0 0 at_ acc) i
def bD:Nat->Nat->PR (List Nd)
 | 0,_=>.out
 | f+1,i =>
   if bj L i oe=true then (bD f (i+1)).bind fun c j=>(bL L oy j).bind fun _ j=>(bD f j).bind fun a j=>(bL L eU j).bind fun _ j=>(bD f j).bind fun b j=>.ok (node 10 [] 0 0 (de L E i) (c++a++b)) j
   else if bj L i fW=true then (bD f (i+1)).bind fun a j=>(bL L sE j).bind fun _ j=>(bD f j).bind fun b j=>.ok (node 11 [] 0 0 (de L E i) (a++b)) j
   else if bj L i kQ=true then (gK L (i+1)).bind fun x j=>(bL L ez j).bind fun _ j=>(jm L j).bind fun n j=>(bL L bV j).bind fun _ j=>(jm L j).bind fun m j=>(bL L kK j).bind fun _ j=>(bD f j).bind fun a j=>.ok (node 12 x n m (de L E i) a) j
   else if bj L i ij=true then (gK L (i+1)).bind fun x j=>(bL L kK j).bind fun _ j=>(bD f j).bind fun a j=>(bL L eU j).bind fun _ j=>(bD f j).bind fun b j=>.ok (node 13 x 0 0 (de L E i) (a++b)) j
   else if bj L i gq=true then (bD f (i+1)).bind fun a j=>(bL L eU j).bind fun _ j=>(bD f j).bind fun b j=>.ok (node 15 [] 0 0 (de L E i) (a++b)) j
   else if bj L i hZ=true then (gK L (i+1)).bind fun x j=>(bL L bV j).bind fun _ j=>(jm L j).bind fun n j=>(bL L kK j).bind fun _ j=>(bD f j).bind fun a j=>.ok (node 14 x n 0 (de L E i) a) j
   else if qx L i 1=true/\bj L (i+1) bV=true then (gK L i).bind fun x j=>(bL L bV j).bind fun _ j=>(bD f j).bind fun a j=>.ok (node 16 x 0 0 (de L E i) a) j
   else eE f 2 i
def eE:Nat->Nat->Nat->PR (List Nd)
 | 0,_,_=>.out
 | f+1,lev,i =>
   if lev=9 then gI f i
   else if lev=4 then if bj L i pJ=true then (eE f 4 (i+1)).bind fun a j=>.ok (node 19 [] 0 0 (de L E i) a) j else eE f 5 i
   else (eE f (lev+1) i).bind fun a j=>lQ f lev a j
def lQ:Nat->Nat->List Nd->Nat->PR (List Nd)
 | 0,_,_,_=>.out
 | f+1,lev,left,i=>match pg L lev i with
   | none=>.ok left i
   | some kind=>if lev=8 then (jm L (i+1)).bind fun n j=>lQ f lev (node kind [] n 0 (de L E i) left) j
     else (eE f (lev+1) (i+1)).bind fun b j=>if lev=5 then .ok (node kind [] 0 0 (de L E i) (left++b)) j else lQ f lev (node kind [] 0 0 (de L E i) (left++b)) j
def gI:Nat->Nat->PR (List Nd)
 | 0,_=>.out
 | f+1,i =>
   if bj L i dB=true then .ok (node 27 [] 0 0 (de L E i) []) (i+1)
   else if bj L i dE=true then .ok (node 28 [] 0 0 (de L E i) []) (i+1)
   else if bj L i fB=true then .ok (node 29 [] 0 0 (de L E i) []) (i+1)
   else if bj L i gw=true then .ok (node 30 [] 0 0 (de L E i) []) (i+1)
   else if bj L i jI=true then (gK L (i+1)).bind fun x j=>.ok (node 31 x 0 0 (de L E i) []) j
   else if bj L i lM=true then (gK L (i+1)).bind fun x j=>.ok (node 32 x 0 0 (de L E i) []) j
   else if bj L i cP=true then (ia f (i+1)).bind fun a j=>(bL L cC j).bind fun _ j=>.ok a j
   else if qx L i 2=true then (jm L i).bind fun n j=>.ok (node 26 [] n 0 (de L E i) []) j
   else (gK L i).bind fun x j=>if bj L j cP=true then (jy f (j+1)).bind fun a j=>(lG f a j).bind fun a j=>(bL L cC j).bind fun _ j=>.ok (node 34 x 0 0 (de L E i) a) j
    else .ok (node 33 x 0 0 (de L E i) []) j
def lG:Nat->List Nd->Nat->PR (List Nd)
 | 0,_,_=>.out
 | f+1,acc,i=>if bj L i cV=true then (jy f (i+1)).bind fun b j=>lG f (acc++b) j else .ok acc i
def jy:Nat->Nat->PR (List Nd)
 | 0,_=>.out
 | f+1,i =>
   if bj L i rR=true then (bL L cP (i+1)).bind fun _ j=>(jT L (lX L E) (L.length+1) j).bind fun a j=>(bL L cC j).bind fun _ j=>(bD f j).bind fun b j=>.ok (node 35 [] 0 0 (de L E i) (a++b)) j
   else if bj L i mO=true then (bL L yq (i+1)).bind fun _ j=>(bD f j).bind fun a j=>(bL L cH j).bind fun _ j=>(bL L yr j).bind fun _ j=>(lX L E j).bind fun b j=>(bL L vw j).bind fun _ j=>(bD f j).bind fun c j=>(bL L rQ j).bind fun _ j=>.ok (node 36 [] 0 0 (de L E i) (a++b++c)) j
   else ia f i
end
def mL (f:Nat) (i:Nat):PR (List Nd) :=
 if bj L i dI=true then (gK L (i+1)).bind fun x j=>(bL L ez j).bind fun _ j=>(jD L E f j).bind fun a j=>(bL L cH j).bind fun _ j=>.ok (node 2 x 0 0 (de L E i) a) j
 else (if bj L i ga=true then .ok 3 (i+1) else (bL L eg i).bind fun _ j=>.ok 4 j:PR Int).bind fun k j =>
  (gK L j).bind fun x j=>(bL L cP j).bind fun _ j =>
  (if bj L j cC=true then .ok [] j else jT L (j9 L E f) f j).bind fun a j =>
  (bL L cC j).bind fun _ j=>(bL L ez j).bind fun _ j=>(fX L E j).bind fun b j=>(bL L gY j).bind fun _ j=>(ia L E f j).bind fun c j =>
  (bL L cH j).bind fun _ j=>.ok (node k x 0 0 (de L E i) (a++b++c)) j
def fuel:Nat:=40 * (L.length+2)
def pc:Nat->List Nd->Nat->PR (List Nd)
 | 0,_,_=>.out
 | f+1,acc,i=>if i < L.length then (mL L E (fuel L) i).bind fun a j=>pc f (acc++a) j else .ok acc i
end
end Go.Rip
namespace Go.Rip
def Gd {α:Type} (n lo lb:Nat):PR α->Prop
 | .ok _ j=>lo <= j/\j <= n
 | .bad j=>lb <= j/\j <= n
 | .out=>False
section
variable {α β:Type} {n lo FJ lb i:Nat} {L:List Tk} {E:Nat}
theorem Gd.bind {x:PR α} {f:α->Nat->PR β} (h:Gd n lo lb x) (k:∀ a j,lo <= j->j <= n->Gd n FJ lb (f a j)):Gd n FJ lb (x.bind f):=by
 cases x with
 | ok a j=>exact k a j h.1 h.2
 | bad j=>exact h
 | out=>exact h.elim
theorem Gd.ite {c:Prop} [Decidable c] {x y:PR α} (h:c->Gd n lo lb x) (k:¬ c->Gd n lo lb y):Gd n lo lb (if c then x else y):=by
 split
 . exact h ‹_›
 . exact k ‹_›
theorem Gd.low {x:PR α} (h:Gd n lo lb x) (k:FJ <= lo):Gd n FJ lb x:=by
 cases x with
 | ok a j=>exact ⟨Nat.le_trans k h.1,h.2⟩
 | bad j=>exact h
 | out=>exact h
theorem Gd.uw {lb':Nat} {x:PR α} (h:Gd n lo lb x) (k:lb' <= lb):Gd n lo lb' x:=by
 cases x with
 | ok a j=>exact h
 | bad j=>exact ⟨Nat.le_trans k h.1,h.2⟩
 | out=>exact h
theorem Gd.at' {lb':Nat} {x:PR α} (h:Gd n lo lb x) (k:FJ <= lo) (k':lb' <= lb):Gd n FJ lb' x:=(h.low k).uw k'
theorem dw {w:aK} (h:bj L i w=true):i < L.length:=by
 unfold bj at h
 split at h
 . rename_i t ht; exact (dx.1 ht).1
 . cases h
theorem X0 {k:Nat} (h:qx L i k=true):i < L.length:=by
 unfold qx at h
 split at h
 . rename_i t ht; exact (dx.1 ht).1
 . cases h
theorem dk {w:aK} (h:i <= L.length):Gd L.length (i+1) i (bL L w i):=by
 unfold bL
 exact .ite (fun c=>⟨cX _,dw c⟩) fun _=>⟨cX _,h⟩
theorem ly (h:i <= L.length):Gd L.length (i+1) i (gK L i):=by
 unfold gK
 split
 . rename_i t ht
   have:=(dx.1 ht).1
   exact .ite (fun c=>⟨cX _,this⟩) fun _=>⟨cX _,h⟩
 . exact ⟨cX _,h⟩
theorem qA (h:i <= L.length):Gd L.length (i+1) i (jm L i):=by
 unfold jm
 split
 . rename_i t ht
   have:=(dx.1 ht).1
   exact .ite (fun c=>⟨cX _,this⟩) fun _=>⟨cX _,h⟩
 . exact ⟨cX _,h⟩
theorem IC {one:Nat->PR (List Nd)} (h1:∀ i,i <= L.length->Gd L.length (i+1) i (one i)):∀ (f:Nat) (acc:List Nd) (i:Nat),i <= L.length->L.length - i < f->Gd L.length i i (mN L one f acc i)
 | 0,acc,i,hi,hf=>by omega
 | f+1,acc,i,hi,hf=>by
   unfold mN
   refine .ite (fun c=>?_) fun _=>⟨cX _,hi⟩
   have:=dw c
   refine ((h1 (i+1) this).uw (lb':=i) (by omega)).bind fun b j h2 h3=>?_
   exact (IC h1 f _ j h3 (by omega)).at' (by omega) (by omega)
theorem B4 {one:Nat->PR (List Nd)} (h1:∀ i,i <= L.length->Gd L.length (i+1) i (one i)) {f:Nat} (hi:i <= L.length) (hf:L.length - i <= f) (h0:0 < f):Gd L.length (i+1) i (jT L one f i):=by
 unfold jT
 refine (h1 i hi).bind fun a j h2 h3=>?_
 exact (IC h1 f _ j h3 (by omega)).at' (by omega) (by omega)
theorem qv (h:i <= L.length):Gd L.length (i+1) i (fX L E i):=by
 unfold fX
 refine .ite (fun c=>⟨cX _,dw c⟩) fun _=>.ite (fun c=>⟨cX _,dw c⟩) fun _=>.ite (fun c=>?_) fun _=>?_
 . have:=dw c
   exact ((qA this).uw (lb':=i) (by omega)).bind fun a j h2 h3=>⟨by omega,h3⟩
 . refine (dk h).bind fun a j h2 h3=>?_
   exact ((qA h3).uw (lb':=i) (by omega)).bind fun a j h2 h3=>⟨by omega,h3⟩
theorem xQ {f:Nat} (h:i <= L.length) (hf:L.length < f):Gd L.length (i+1) i (jD L E f i):=by
 unfold jD
 refine .ite (fun c=>?_) fun _=>qv h
 have:=dw c
 refine ((B4 (fun i hi=>qv hi) this (by omega) (by omega)).uw (lb':=i) (by omega)).bind fun a j h2 h3=>?_
 refine ((dk h3).uw (lb':=i) (by omega)).bind fun a j h4 h5=>?_
 refine ((dk h5).uw (lb':=i) (by omega)).bind fun a j h6 h7=>?_
 exact ((qv h7).uw (lb':=i) (by omega)).bind fun a j h8 h9=>⟨by omega,h9⟩
theorem FY {f:Nat} (h:i <= L.length) (hf:L.length < f):Gd L.length (i+1) i (j9 L E f i):=by
 unfold j9
 refine (ly h).bind fun a j h2 h3=>?_
 refine ((dk h3).uw (lb':=i) (by omega)).bind fun a j h4 h5=>?_
 exact ((xQ h5 hf).uw (lb':=i) (by omega)).bind fun a j h8 h9=>⟨by omega,h9⟩
theorem xm (h:i <= L.length):Gd L.length (i+1) i (lX L E i):=by
 unfold lX
 exact (ly h).bind fun a j h2 h3=>⟨h2,h3⟩
theorem Gd.step {lo1 lb1:Nat} {x:PR α} {f:α->Nat->PR β} (h:Gd n lo1 lb1 x) (hb:lb <= lb1) (k:∀ a j,lo1 <= j->j <= n->Gd n FJ lb (f a j)):Gd n FJ lb (x.bind f):=(h.uw hb).bind k
theorem Lt {lev:Nat} {k:Int} (h:pg L lev i=some k):i < L.length:=by
 unfold pg at h
 repeat' (split at h)
 all_goals first
  | (cases h; done)
  | exact dw ‹_›
theorem zm:∀ f:Nat,
 (∀ i,i <= L.length->40 * (L.length - i)+11 <= f->Gd L.length (i+1) i (ia L E f i)) /\
 (∀ i at_ acc many,i <= L.length->40 * (L.length - i)+1 <= f->Gd L.length i i (oO L E f at_ acc many i)) /\
 (∀ i,i <= L.length->40 * (L.length - i)+10 <= f->Gd L.length (i+1) i (bD L E f i)) /\
 (∀ i lev,i <= L.length->lev <= 9->40 * (L.length - i)+(11 - lev) <= f->Gd L.length (i+1) i (eE L E f lev i)) /\
 (∀ i lev left,i <= L.length->lev <= 8->40 * (L.length - i)+1 <= f->Gd L.length i i (lQ L E f lev left i)) /\
 (∀ i,i <= L.length->40 * (L.length - i)+1 <= f->Gd L.length (i+1) i (gI L E f i)) /\
 (∀ i acc,i <= L.length->40 * (L.length - i)+1 <= f->Gd L.length i i (lG L E f acc i)) /\
 (∀ i,i <= L.length->40 * (L.length - i)+12 <= f->Gd L.length (i+1) i (jy L E f i)):=by
 intro f
 induction f with
 | zero=>refine ⟨?_,?_,?_,?_,?_,?_,?_,?_⟩ <;> intros <;> omega
 | succ f ih =>
   obtain ⟨iT,iS,iF,iO,iP,iA,iG,iR⟩:=ih
   refine ⟨?_,?_,?_,?_,?_,?_,?_,?_⟩
   . intro i hi hf
     rw [ia]
     refine (iF i hi (by omega)).bind fun a j h1 h2=>?_
     exact (iS j _ _ _ h2 (by omega)).at' (by omega) (by omega)
   . intro i at_ acc many hi hf
     rw [oO]
     refine .ite (fun c=>?_) fun _=>⟨cX _,hi⟩
     have h0:=dw c.1
     refine (iF (i+1) (by omega) (by omega)).step (by omega) fun a j h1 h2=>?_
     exact (iS j _ _ _ h2 (by omega)).at' (by omega) (by omega)
   . intro i hi hf
     rw [bD]
     refine .ite (fun c=>?_) fun _=>.ite (fun c=>?_) fun _=>.ite (fun c=>?_) fun _=>.ite (fun c=>?_) fun _=>.ite (fun c=>?_) fun _=>.ite (fun c=>?_) fun _=>.ite (fun c=>?_) fun _=>?_
     . have h0:=dw c
       refine (iF (i+1) (by omega) (by omega)).step (by omega) fun a j h1 h2=>(dk h2).step (by omega) fun a j h3 h4=>(iF j (by omega) (by omega)).step (by omega) fun a j h5 h6=>(dk h6).step (by omega) fun a j h7 h8=>(iF j (by omega) (by omega)).step (by omega) fun a j h9 oS=>⟨by omega,oS⟩
     . have h0:=dw c
       exact (iF (i+1) (by omega) (by omega)).step (by omega) fun a j h1 h2=>(dk h2).step (by omega) fun a j h3 h4=>(iF j (by omega) (by omega)).step (by omega) fun a j h5 h6=>⟨by omega,h6⟩
     . have h0:=dw c
       exact (ly h0).step (by omega) fun a j h1 h2=>(dk h2).step (by omega) fun a j h3 h4=>(qA h4).step (by omega) fun a j h5 h6=>(dk h6).step (by omega) fun a j h7 h8=>(qA h8).step (by omega) fun a j h9 oS=>(dk oS).step (by omega) fun a j wq wu=>(iF j (by omega) (by omega)).step (by omega) fun a j h13 OI=>⟨by omega,OI⟩
     . have h0:=dw c
       exact (ly h0).step (by omega) fun a j h1 h2=>(dk h2).step (by omega) fun a j h3 h4=>(iF j (by omega) (by omega)).step (by omega) fun a j h5 h6=>(dk h6).step (by omega) fun a j h7 h8=>(iF j (by omega) (by omega)).step (by omega) fun a j h9 oS=>⟨by omega,oS⟩
     . have h0:=dw c
       exact (iF (i+1) (by omega) (by omega)).step (by omega) fun a j h1 h2=>(dk h2).step (by omega) fun a j h3 h4=>(iF j (by omega) (by omega)).step (by omega) fun a j h5 h6=>⟨by omega,h6⟩
     . have h0:=dw c
       exact (ly h0).step (by omega) fun a j h1 h2=>(dk h2).step (by omega) fun a j h3 h4=>(qA h4).step (by omega) fun a j h5 h6=>(dk h6).step (by omega) fun a j h7 h8=>(iF j (by omega) (by omega)).step (by omega) fun a j h9 oS=>⟨by omega,oS⟩
     . have h0:=X0 c.1
       exact (ly hi).step (by omega) fun a j h1 h2=>(dk h2).step (by omega) fun a j h3 h4=>(iF j (by omega) (by omega)).step (by omega) fun a j h5 h6=>⟨by omega,h6⟩
     . exact iO i 2 hi (by omega) (by omega)
   . intro i lev hi hl hf
     rw [eE]
     refine .ite (fun c=>?_) fun c9=>.ite (fun c=>.ite (fun d=>?_) fun d=>?_) fun c4=>?_
     . exact iA i hi (by omega)
     . have h0:=dw d
       exact (iO (i+1) 4 (by omega) (by omega) (by omega)).step (by omega) fun a j h1 h2=>⟨by omega,h2⟩
     . exact iO i 5 hi (by omega) (by omega)
     . refine (iO i (lev+1) hi (by omega) (by omega)).bind fun a j h1 h2=>?_
       exact (iP j lev a h2 (by omega) (by omega)).at' (by omega) (by omega)
   . intro i lev left hi hl hf
     rw [lQ]
     split
     . exact ⟨cX _,hi⟩
     . rename_i k hk
       have h0:=Lt hk
       refine .ite (fun c=>?_) fun c=>?_
       . exact (qA h0).step (by omega) fun a j h1 h2=>(iP j lev _ h2 hl (by omega)).at' (by omega) (by omega)
       . refine (iO (i+1) (lev+1) h0 (by omega) (by omega)).step (by omega) fun a j h1 h2=>.ite (fun _=>⟨by omega,h2⟩) fun _=>?_
         exact (iP j lev _ h2 hl (by omega)).at' (by omega) (by omega)
   . intro i hi hf
     rw [gI]
     refine .ite (fun c=>⟨cX _,dw c⟩) fun _=>.ite (fun c=>⟨cX _,dw c⟩) fun _=>.ite (fun c=>⟨cX _,dw c⟩) fun _=>.ite (fun c=>⟨cX _,dw c⟩) fun _=>.ite (fun c=>?_) fun _=>.ite (fun c=>?_) fun _=>.ite (fun c=>?_) fun _=>.ite (fun c=>?_) fun _=>?_
     . have h0:=dw c
       exact (ly h0).step (by omega) fun a j h1 h2=>⟨by omega,h2⟩
     . have h0:=dw c
       exact (ly h0).step (by omega) fun a j h1 h2=>⟨by omega,h2⟩
     . have h0:=dw c
       exact (iT (i+1) (by omega) (by omega)).step (by omega) fun a j h1 h2=>(dk h2).step (by omega) fun a j h3 h4=>⟨by omega,h4⟩
     . exact (qA hi).step (by omega) fun a j h1 h2=>⟨by omega,h2⟩
     . refine (ly hi).step (by omega) fun a j h1 h2=>.ite (fun c=>?_) fun _=>⟨by omega,h2⟩
       have h0:=dw c
       exact (iR (j+1) (by omega) (by omega)).step (by omega) fun a j h3 h4=>(iG j _ h4 (by omega)).step (by omega) fun a j h5 h6=>(dk h6).step (by omega) fun a j h7 h8=>⟨by omega,h8⟩
   . intro i acc hi hf
     rw [lG]
     refine .ite (fun c=>?_) fun _=>⟨cX _,hi⟩
     have h0:=dw c
     exact (iR (i+1) (by omega) (by omega)).step (by omega) fun a j h1 h2=>(iG j _ h2 (by omega)).at' (by omega) (by omega)
   . intro i hi hf
     rw [jy]
     refine .ite (fun c=>?_) fun _=>.ite (fun c=>?_) fun _=>?_
     . have h0:=dw c
       exact (dk h0).step (by omega) fun a j h1 h2=>(B4 (fun i hi=>xm hi) h2 (by omega) (by omega)).step (by omega) fun a j h3 h4=>(dk h4).step (by omega) fun a j h5 h6=>(iF j (by omega) (by omega)).step (by omega) fun a j h7 h8=>⟨by omega,h8⟩
     . have h0:=dw c
       exact (dk h0).step (by omega) fun a j h1 h2=>(iF j (by omega) (by omega)).step (by omega) fun a j h3 h4=>(dk h4).step (by omega) fun a j h5 h6=>(dk h6).step (by omega) fun a j h7 h8=>(xm h8).step (by omega) fun a j h9 oS=>(dk oS).step (by omega) fun a j wq wu=>(iF j (by omega) (by omega)).step (by omega) fun a j h13 OI=>(dk OI).step (by omega) fun a j h15 h16=>⟨by omega,h16⟩
     . exact iT i hi (by omega)
theorem Uh {f:Nat} (hi:i <= L.length) (hf:40 * (L.length - i)+11 <= f) (km:L.length < f):Gd L.length (i+1) i (mL L E f i):=by
 unfold mL
 refine .ite (fun c=>?_) fun _=>?_
 . have h0:=dw c
   exact (ly h0).step (by omega) fun a j h1 h2=>(dk h2).step (by omega) fun a j h3 h4=>(xQ h4 km).step (by omega) fun a j h5 h6=>(dk h6).step (by omega) fun a j h7 h8=>⟨by omega,h8⟩
 . refine Gd.bind (lo:=i+1) (.ite (fun c=>⟨cX _,dw c⟩) fun _=>(dk hi).bind fun a j h1 h2=>⟨h1,h2⟩) fun k j h1 h2=>?_
   refine (ly h2).step (by omega) fun a j h3 h4=>(dk h4).step (by omega) fun a j h5 h6=>?_
   refine Gd.step (lo1:=j) (lb1:=j) (.ite (fun c=>⟨cX _,h6⟩) fun _=>(B4 (fun i hi=>FY hi km) h6 (by omega) (by omega)).low (by omega)) (by omega) fun a j h7 h8=>?_
   exact (dk h8).step (by omega) fun a j h9 oS=>(dk oS).step (by omega) fun a j wq wu=>(qv wu).step (by omega) fun a j h13 OI=>(dk OI).step (by omega) fun a j h15 h16=>((zm f).1 j h16 (by omega)).step (by omega) fun a j h17 h18=>(dk h18).step (by omega) fun a j h19 h20=>⟨by omega,h20⟩
theorem MP (hi:i <= L.length):Gd L.length (i+1) i (mL L E (fuel L) i):=Uh hi (by unfold fuel; omega) (by unfold fuel; omega)
end
end Go.Rip
namespace Go.Rip
def mx (t:Tk):Prop:=t.s ≠ []/\iI t.s=(0,t.k,t.s)
theorem wY (p:UInt8->Bool):∀ l:aK,(l.takeWhile p).takeWhile p=l.takeWhile p
 | []=>rfl
 | c::l=>by
   simp only [oN]
   cases h:p c with
   | true=>simp [h,wY p l]
   | false=>rfl
theorem I9:∀ x ∈ ke,iI x=(0,4,x)/\x ≠ []:=by decide
theorem EA {s:aK} {k:Nat} {t:aK} (h:iI s=(0,k,t)):mx ⟨k,t,0⟩/\t <+: s:=by
 have hid:=wY dm s
 have si:=vQ dm (l:=s)
 unfold iI at h
 simp only at h
 split at h
 . rename_i hw
   split at h
   . rename_i x hx
     simp only [jA,true_and] at h
     obtain ⟨rfl,rfl⟩:=h
     have hm:=List.mem_of_find?_eq_some hx
     have hp:=List.find?_some hx
     exact ⟨⟨(I9 _ hm).2,(I9 _ hm).1⟩,List.isPrefixOf_iff_prefix.1 hp⟩
   . simp at h
 . rename_i c r hw
   have key:∀ {e:Int} {k:Nat},iI (s.takeWhile dm)=(e,k,s.takeWhile dm)->e=0->mx ⟨k,s.takeWhile dm,0⟩/\s.takeWhile dm <+: s:=fun h1 h2=>⟨⟨by simp [hw],by rw [h1,h2]⟩,si⟩
   split at h
   . rename_i hd
     simp only [jA] at h
     obtain ⟨h1,rfl,rfl⟩:=h
     refine key ?_ h1
     unfold iI
     simp only [hid]
     rw [hw]
     simp only [if_pos hd]
   . rename_i hd
     split at h
     . simp at h
     . rename_i hs
       split at h
       . rename_i hk
         simp only [jA,true_and] at h
         obtain ⟨rfl,rfl⟩:=h
         refine key ?_ rfl
         unfold iI
         simp only [hid]
         rw [hw] at hk ⊢
         simp only [if_neg hd,if_neg hs,if_pos hk]
       . rename_i hk
         split at h
         . simp at h
         . rename_i hl
           simp only [jA,true_and] at h
           obtain ⟨rfl,rfl⟩:=h
           refine key ?_ rfl
           unfold iI
           simp only [hid]
           rw [hw] at hk hl ⊢
           simp only [if_neg hd,if_neg hs,if_neg hk,if_neg hl]
theorem AB:∀ (f:Nat) (s:aK) (p:Nat) (l:List Tk) {L:List Tk},fL f s p l=.ok L->(∀ t ∈ l,mx t)->l.length <= 900->(∀ t ∈ L,mx t)/\L.length <= 900
 | 0,s,p,l,L,h,hl,hn=>by simp only [fL,GY.ok.injEq] at h; subst h; exact ⟨hl,hn⟩
 | f+1,s,p,l,L,h,hl,hn=>by
   simp only [fL] at h
   split at h
   . simp only [GY.ok.injEq] at h; subst h; exact ⟨hl,hn⟩
   . split at h
     . exact AB f s _ l h hl hn
     . split at h
       . exact AB f s _ l h hl hn
       . split at h
         . cases h
         . rename_i he
           split at h
           . cases h
           . rename_i hc
             refine AB f s _ _ h (fun t ht=>?_) (by simp; omega)
             simp only [fS,jz] at ht
             rcases ht with ht | rfl
             . exact hl t ht
             . have mH:(iI _).1=0:=Decidable.not_not.1 he
               exact (EA (Prod.ext mH rfl)).1
theorem AD {s:aK} {L:List Tk} (h:jY s=.ok L):(∀ t ∈ L,mx t)/\L.length <= 900:=by
 unfold jY at h
 split at h
 split at h
 . cases h
 . exact AB _ _ _ _ h (by simp) (by simp)
end Go.Rip
namespace Go.Rip
def jZ (a:Int) (s:aK):Int:=s.foldl (fun n c=>min (10 * n+((c.toNat:Int) - 48)) 1000001) a
def rh (a:Int) (s:aK):Int:=s.foldl (fun n c=>10 * n+((c.toNat:Int) - 48)) a
theorem ma {c:UInt8}:gJ c=true ↔ 48 <= c.toNat/\c.toNat <= 57:=by simp [gJ]
theorem Ek:∀ (s:aK) (a:Int),a <= 1000001->jZ a s <= 1000001
 | [],a,h=>h
 | c::s,a,h=>Ek s (min (10 * a+((c.toNat:Int) - 48)) 1000001) (by omega)
theorem tY:∀ (s:aK) (a:Int),s.all gJ=true->0 <= a->min a 1000001 <= jZ a s
 | [],a,_,h=>by simp [jZ]; omega
 | c::s,a,hd,h=>by
   simp only [List.all_cons,bX] at hd
   have h1:=ma.1 hd.1
   have:=tY s (min (10 * a+((c.toNat:Int) - 48)) 1000001) hd.2 (by omega)
   have e:jZ a (c::s)=jZ (min (10 * a+((c.toNat:Int) - 48)) 1000001) s:=rfl
   omega
theorem FT:∀ (s:aK) (a:Int),s.all gJ=true->0 <= a->jZ a s <= 1000000->jZ a s=rh a s
 | [],a,_,_,_=>rfl
 | c::s,a,hd,h,hl=>by
   simp only [List.all_cons,bX] at hd
   have h1:=ma.1 hd.1
   have e:jZ a (c::s)=jZ (min (10 * a+((c.toNat:Int) - 48)) 1000001) s:=rfl
   have e2:rh a (c::s)=rh (10 * a+((c.toNat:Int) - 48)) s:=rfl
   have hg:=tY s (min (10 * a+((c.toNat:Int) - 48)) 1000001) hd.2 (by omega)
   have hm:min (10 * a+((c.toNat:Int) - 48)) 1000001=10 * a+((c.toNat:Int) - 48):=by omega
   rw [hm] at e
   rw [e,e2]
   exact FT s _ hd.2 (by omega) (by omega)
theorem IJ:∀ (s:aK) (a:Int),s.all gJ=true->1 <= a->jZ a s <= 1000000->10 ^ s.length * a <= jZ a s
 | [],a,_,_,_=>by simp [jZ]
 | c::s,a,hd,h,hl=>by
   simp only [List.all_cons,bX] at hd
   have h1:=ma.1 hd.1
   have e:jZ a (c::s)=jZ (min (10 * a+((c.toNat:Int) - 48)) 1000001) s:=rfl
   have hg:=tY s (min (10 * a+((c.toNat:Int) - 48)) 1000001) hd.2 (by omega)
   have hm:min (10 * a+((c.toNat:Int) - 48)) 1000001=10 * a+((c.toNat:Int) - 48):=by omega
   rw [hm] at e
   rw [e] at hl ⊢
   have:=IJ s _ hd.2 (by omega) hl
   have hp:(0:Int) < 10 ^ s.length:=Int.pow_pos (by omega)
   have:10 ^ s.length * (10 * a) <= 10 ^ s.length * (10 * a+((c.toNat:Int) - 48)):=Int.mul_le_mul_of_nonneg_left (by omega) (by omega)
   rw [gU,Int.pow_succ,Int.mul_assoc]
   omega
theorem Ej {s:aK} (h:pd s=0):s.all gJ=true/\¬ (1 < s.length/\s.head?=some 48)/\IK s <= 1000000:=by
 unfold pd at h
 split at h
 . cases h
 . rename_i h1
   split at h
   . cases h
   . rename_i h2
     split at h
     . cases h
     . rename_i h3; exact ⟨by simpa using h1,h2,by omega⟩
theorem zK {s:aK} (h0:s ≠ []) (h:pd s=0):1 <= s.length/\s.length <= 7/\IK s=vG s/\0 <= vG s/\vG s <= 1000000:=by
 obtain ⟨h1,h2,h3⟩:=Ej h
 have hv:IK s=jZ 0 s:=rfl
 have hd:vG s=rh 0 s:=rfl
 have e:=FT s 0 h1 (by omega) (by omega)
 have hg:=tY s 0 h1 (by omega)
 refine ⟨?_,?_,by omega,by omega,by omega⟩
 . cases s with
   | nil=>exact absurd rfl h0
   | cons c s=>simp
 . cases s with
   | nil=>simp
   | cons c s =>
     simp only [List.all_cons,bX] at h1
     have hc:=ma.1 h1.1
     rcases jL s.length 1 with hl | hl
     . simp; omega
     . have KO:c ≠ 48:=fun e=>h2 ⟨by simp; omega,by simp [e]⟩
       have wA:c.toNat ≠ 48:=fun e=>KO (by apply UInt8.toNat_inj.1; simpa using e)
       have e1:jZ 0 (c::s)=jZ ((c.toNat:Int) - 48) s:=by
        show jZ (min (10 * 0+((c.toNat:Int) - 48)) 1000001) s=_
        congr 1; omega
       have hlen:=IJ s ((c.toNat:Int) - 48) h1.2 (by omega) (by omega)
       rcases jL s.length 7 with hl | hl
       . simp; omega
       . exfalso
         have h7:(10:Int) ^ 7 <= 10 ^ s.length:=by
          have:=Nat.pow_le_pow_right (n:=10) (by omega) hl
          exact_mod_cast this
         have:(10:Int) ^ s.length * 1 <= 10 ^ s.length * ((c.toNat:Int) - 48):=Int.mul_le_mul_of_nonneg_left (by omega) (by omega)
         omega
theorem Cl {s:aK} (h:iI s=(0,2,s)) (h0:s ≠ []):pd s=0:=by
 unfold iI at h
 simp only at h
 split at h
 . split at h <;> simp at h
 . rename_i c r hw
   split at h
   . simp only [jA,true_and] at h
     rw [h.2] at h; exact h.1
   . split at h
     . simp at h
     . split at h
       . simp at h
       . split at h <;> simp at h
theorem Lo {t:Tk} (h:mx t) (hk:t.k=2):pd t.s=0:=Cl (by rw [h.2,hk]) h.1
theorem AZ:∀ (s:aK) (a:Nat),s.all gJ=true->∃ m,Lib.decFrom a s=some m/\(m:Int)=rh a s
 | [],a,_=>⟨a,rfl,rfl⟩
 | c::s,a,h=>by
   simp only [List.all_cons,bX] at h
   have hc:=ma.1 h.1
   obtain ⟨m,h1,h2⟩:=AZ s (a * 10+(c.toNat - 48)) h.2
   refine ⟨m,?_,?_⟩
   . simp only [Lib.decFrom,Lib.digitVal,if_pos hc]; exact h1
   . rw [h2]
     show rh _ s=rh (10 * (a:Int)+((c.toNat:Int) - 48)) s
     congr 1; omega
theorem Ta {s:aK} (h0:s ≠ []) (h:s.all gJ=true):Lib.atoi s=some (vG s):=by
 cases s with
 | nil=>exact absurd rfl h0
 | cons c s =>
   have h':=h
   simp only [List.all_cons,bX] at h'
   have hc:=ma.1 h'.1
   obtain ⟨m,h1,h2⟩:=AZ (c::s) 0 h
   have c45:(c == 45)=false:=by simp; rintro rfl; simp at hc
   have c43:(c == 43)=false:=by simp; rintro rfl; simp at hc
   simp only [Lib.atoi,c45,c43,bU,if_false,Lib.decNat,List.isEmpty_cons,h1,Option.map_some,ja]
   exact h2
end Go.Rip
namespace Go.Rip
theorem qX {s:aK} {k:Nat} {t:aK} (h:iI s=(0,k,t)):(k=1/\t ∉ ni/\t.length <= 12/\(∃ c r,t=c::r/\lI c=true)/\t.all dm=true)\/(k=2/\∃ c r,t=c::r/\gJ c=true)\/(k=3/\t ∈ ni)\/(k=4/\t ∈ ke):=by
 have cm:(s.takeWhile dm).all dm=true:=by
  rw [fl]; intro x hx
  have:∀ l:aK,x ∈ l.takeWhile dm->dm x=true:=fun l=>by
   induction l with
   | nil=>simp
   | cons c l ih =>
     simp only [oN]
     split
     . rename_i hc
       intro h
       rcases cD.1 h with rfl | h
       . exact hc
       . exact ih h
     . simp
  exact this s hx
 unfold iI at h
 simp only at h
 split at h
 . split at h
   . rename_i x hx
     simp only [jA,true_and] at h
     obtain ⟨rfl,rfl⟩:=h
     exact .inr (.inr (.inr ⟨rfl,List.mem_of_find?_eq_some hx⟩))
   . simp at h
 . rename_i c r hw
   split at h
   . rename_i hd
     simp only [jA] at h
     obtain ⟨h1,rfl,rfl⟩:=h
     exact .inr (.inl ⟨rfl,c,r,hw,hd⟩)
   . split at h
     . simp at h
     . rename_i hs
       split at h
       . rename_i hk
         simp only [jA,true_and] at h
         obtain ⟨rfl,rfl⟩:=h
         exact .inr (.inr (.inl ⟨rfl,hk⟩))
       . rename_i hk
         split at h
         . simp at h
         . rename_i hl
           simp only [jA,true_and] at h
           obtain ⟨rfl,rfl⟩:=h
           exact .inl ⟨rfl,hk,by omega,⟨c,r,hw,by simpa using hs⟩,cm⟩
theorem mx.cases {t:Tk} (h:mx t):(t.k=1/\t.s ∉ ni)\/t.k=2\/(t.k=3/\t.s ∈ ni)\/(t.k=4/\t.s ∈ ke):=by
 rcases qX h.2 with h | h | h | h
 . exact .inl ⟨h.1,h.2.1⟩
 . exact .inr (.inl h.1)
 . exact .inr (.inr (.inl h))
 . exact .inr (.inr (.inr h))
theorem MT:∀ w ∈ ni,w ∉ ke:=by decide
theorem zB {L:List Tk} {i:Nat} {w:aK} (h:bj L i w=true):∃ t,L[i]?=some t/\(t.k=3\/t.k=4)/\t.s=w:=by
 unfold bj at h
 split at h
 . rename_i t ht
   simp only [bX,jM,beq_iff_eq] at h
   exact ⟨t,ht,h.1,h.2⟩
 . cases h
theorem X2 {L:List Tk} {i:Nat} {w:aK} {t:Tk} (ht:L[i]?=some t) (hk:t.k=3\/t.k=4) (hs:t.s=w):bj L i w=true:=by
 unfold bj; rw [ht]; simp [hs,hk]
theorem X1 {L:List Tk} (hL:∀ t ∈ L,mx t) {i:Nat} {w:aK} (hw:w ∈ ni) (h:bj L i w=true):∃ t,L[i]?=some t/\t.k=3/\t.s=w:=by
 obtain ⟨t,ht,hk,hs⟩:=zB h
 refine ⟨t,ht,?_,hs⟩
 rcases hk with hk | hk
 . exact hk
 . rcases (hL t (gh ht)).cases with h | h | h | h
   . omega
   . omega
   . omega
   . rw [hs] at h; exact absurd h.2 (MT w hw)
def sy (o:Option Tk):aK:=match o with | some t=>if t.k=3\/t.k=4 then t.s else [] | none=>[]
theorem Fv {L:List Tk} {i:Nat} {w:aK} (hw:w ≠ []):bj L i w=decide (sy L[i]?=w):=by
 unfold bj sy
 split
 . rename_i t ht
   by_cases h:t.k=3\/t.k=4
   . by_cases hs:t.s=w <;> simp [ht,h,hs]
   . have h3:¬ t.k=3:=fun e=>h (.inl e)
     have h4:¬ t.k=4:=fun e=>h (.inr e)
     simp [ht,h3,h4,Ne.symm hw]
 . rename_i ht; simp [ht,Ne.symm hw]
end Go.Rip
namespace Go.Rip
theorem PR.av {α β:Type} {x:PR α} {f:α->Nat->PR β} {b:β} {j:Nat} (h:x.bind f=.ok b j):∃ a i,x=.ok a i/\f a i=.ok b j:=by
 cases x with
 | ok a i=>exact ⟨a,i,rfl,h⟩
 | bad i=>cases h
 | out=>cases h
theorem PR.bF {α:Type} {a b:α} {i j:Nat} (h:PR.ok a i=PR.ok b j):a=b/\i=j:=by cases h; exact ⟨rfl,rfl⟩
theorem cZ {L:List Tk} {w:aK} {i j:Nat} {u:Unit} (h:bL L w i=.ok u j):j=i+1:=by
 unfold bL at h; split at h <;> cases h; rfl
theorem kH {L:List Tk} {i j:Nat} {u:aK} (h:gK L i=.ok u j):j=i+1:=by
 unfold gK at h; split at h
 . split at h <;> cases h; rfl
 . cases h
theorem pe {L:List Tk} {i j:Nat} {u:Int} (h:jm L i=.ok u j):j=i+1:=by
 unfold jm at h; split at h
 . split at h <;> cases h; rfl
 . cases h
theorem bW (k:Int) (t:aK) (n m a:Int) (l:List Nd):(node k t n m a l).length=l.length+1:=rfl
section
variable {L:List Tk} {E:Nat}
theorem uS {i j:Nat} {ns:List Nd} (h:fX L E i=.ok ns j):ns.length+i <= j:=by
 unfold fX at h
 split at h
 . obtain ⟨rfl,rfl⟩:=PR.bF h; simp [bW]; omega
 . split at h
   . obtain ⟨rfl,rfl⟩:=PR.bF h; simp [bW]; omega
   . split at h
     . obtain ⟨_,_,h1,h⟩:=PR.av h
       have:=pe h1
       obtain ⟨rfl,rfl⟩:=PR.bF h; simp [bW]; omega
     . obtain ⟨_,_,h1,h⟩:=PR.av h
       obtain ⟨_,_,h2,h⟩:=PR.av h
       have:=cZ h1; have:=pe h2
       obtain ⟨rfl,rfl⟩:=PR.bF h; simp [bW]; omega
theorem EL {i j:Nat} {ns:List Nd} (h:lX L E i=.ok ns j):ns.length+i <= j:=by
 unfold lX at h
 obtain ⟨_,_,h1,h⟩:=PR.av h
 have:=kH h1
 obtain ⟨rfl,rfl⟩:=PR.bF h; simp [bW]; omega
theorem FO {one:Nat->PR (List Nd)} (h1:∀ {i j ns},one i=.ok ns j->ns.length+i <= j):∀ (f:Nat) (acc:List Nd) (i:Nat) {j:Nat} {ns:List Nd},mN L one f acc i=.ok ns j->ns.length+i <= j+acc.length
 | 0,_,_,_,_,h=>by cases h
 | f+1,acc,i,j,ns,h=>by
   unfold mN at h
   split at h
   . obtain ⟨_,_,h2,h⟩:=PR.av h
     have:=h1 h2
     have:=FO h1 f _ _ h
     simp at this; omega
   . obtain ⟨rfl,rfl⟩:=PR.bF h; omega
theorem zE {one:Nat->PR (List Nd)} (h1:∀ {i j ns},one i=.ok ns j->ns.length+i <= j) {f i j:Nat} {ns:List Nd} (h:jT L one f i=.ok ns j):ns.length+i <= j:=by
 unfold jT at h
 obtain ⟨_,_,h2,h⟩:=PR.av h
 have:=h1 h2
 have:=FO h1 f _ _ h
 omega
theorem FE {f i j:Nat} {ns:List Nd} (h:jD L E f i=.ok ns j):ns.length+i <= j:=by
 unfold jD at h
 split at h
 . obtain ⟨_,_,h1,h⟩:=PR.av h
   obtain ⟨_,_,h2,h⟩:=PR.av h
   obtain ⟨_,_,h3,h⟩:=PR.av h
   obtain ⟨_,_,h4,h⟩:=PR.av h
   have:=zE (fun h=>uS h) h1; have:=cZ h2; have:=cZ h3; have:=uS h4
   obtain ⟨rfl,rfl⟩:=PR.bF h; simp [bW]; omega
 . exact uS h
theorem Nh {f i j:Nat} {ns:List Nd} (h:j9 L E f i=.ok ns j):ns.length+i <= j:=by
 unfold j9 at h
 obtain ⟨_,_,h1,h⟩:=PR.av h
 obtain ⟨_,_,h2,h⟩:=PR.av h
 obtain ⟨_,_,h3,h⟩:=PR.av h
 have:=kH h1; have:=cZ h2; have:=FE h3
 obtain ⟨rfl,rfl⟩:=PR.bF h; simp [bW]; omega
theorem TN:∀ f:Nat,
 (∀ {i j ns},ia L E f i=.ok ns j->ns.length+i <= j) /\
 (∀ {i at_ acc many j ns},oO L E f at_ acc many i=.ok ns j->ns.length+i <= j+acc.length+(if many=1 then 0 else 1)) /\
 (∀ {i j ns},bD L E f i=.ok ns j->ns.length+i <= j) /\
 (∀ {i lev j ns},eE L E f lev i=.ok ns j->ns.length+i <= j) /\
 (∀ {i lev left j ns},lQ L E f lev left i=.ok ns j->ns.length+i <= j+left.length) /\
 (∀ {i j ns},gI L E f i=.ok ns j->ns.length+i <= j) /\
 (∀ {i acc j ns},lG L E f acc i=.ok ns j->ns.length+i <= j+acc.length) /\
 (∀ {i j ns},jy L E f i=.ok ns j->ns.length+i <= j):=by
 intro f
 induction f with
 | zero=>refine ⟨?_,?_,?_,?_,?_,?_,?_,?_⟩ <;> (intros; rename_i h; first | (rw [ia] at h; cases h; done) | (rw [oO] at h; cases h; done) | (rw [bD] at h; cases h; done) | (rw [eE] at h; cases h; done) | (rw [lQ] at h; cases h; done) | (rw [gI] at h; cases h; done) | (rw [lG] at h; cases h; done) | (rw [jy] at h; cases h; done))
 | succ f ih =>
   obtain ⟨iT,iS,iF,iO,iP,iA,iG,iR⟩:=ih
   refine ⟨?_,?_,?_,?_,?_,?_,?_,?_⟩
   . intro i j ns h
     rw [ia] at h
     obtain ⟨_,_,h1,h⟩:=PR.av h
     have:=iF h1; have:=iS h
     simp at this; omega
   . intro i at_ acc many j ns h
     rw [oO] at h
     split at h
     . obtain ⟨_,_,h1,h⟩:=PR.av h
       have:=iF h1; have:=iS h
       simp only [df] at this
       split at this <;> split <;> omega
     . obtain ⟨rfl,rfl⟩:=PR.bF h
       split <;> simp [bW] <;> omega
   . intro i j ns h
     rw [bD] at h
     split at h
     . obtain ⟨_,_,h1,h⟩:=PR.av h
       obtain ⟨_,_,h2,h⟩:=PR.av h
       obtain ⟨_,_,h3,h⟩:=PR.av h
       obtain ⟨_,_,h4,h⟩:=PR.av h
       obtain ⟨_,_,h5,h⟩:=PR.av h
       have:=iF h1; have:=cZ h2; have:=iF h3; have:=cZ h4; have:=iF h5
       obtain ⟨rfl,rfl⟩:=PR.bF h; simp [bW]; omega
     split at h
     . obtain ⟨_,_,h1,h⟩:=PR.av h
       obtain ⟨_,_,h2,h⟩:=PR.av h
       obtain ⟨_,_,h3,h⟩:=PR.av h
       have:=iF h1; have:=cZ h2; have:=iF h3
       obtain ⟨rfl,rfl⟩:=PR.bF h; simp [bW]; omega
     split at h
     . obtain ⟨_,_,h1,h⟩:=PR.av h
       obtain ⟨_,_,h2,h⟩:=PR.av h
       obtain ⟨_,_,h3,h⟩:=PR.av h
       obtain ⟨_,_,h4,h⟩:=PR.av h
       obtain ⟨_,_,h5,h⟩:=PR.av h
       obtain ⟨_,_,h6,h⟩:=PR.av h
       obtain ⟨_,_,h7,h⟩:=PR.av h
       have:=kH h1; have:=cZ h2; have:=pe h3; have:=cZ h4; have:=pe h5; have:=cZ h6; have:=iF h7
       obtain ⟨rfl,rfl⟩:=PR.bF h; simp [bW]; omega
     split at h
     . obtain ⟨_,_,h1,h⟩:=PR.av h
       obtain ⟨_,_,h2,h⟩:=PR.av h
       obtain ⟨_,_,h3,h⟩:=PR.av h
       obtain ⟨_,_,h4,h⟩:=PR.av h
       obtain ⟨_,_,h5,h⟩:=PR.av h
       have:=kH h1; have:=cZ h2; have:=iF h3; have:=cZ h4; have:=iF h5
       obtain ⟨rfl,rfl⟩:=PR.bF h; simp [bW]; omega
     split at h
     . obtain ⟨_,_,h1,h⟩:=PR.av h
       obtain ⟨_,_,h2,h⟩:=PR.av h
       obtain ⟨_,_,h3,h⟩:=PR.av h
       have:=iF h1; have:=cZ h2; have:=iF h3
       obtain ⟨rfl,rfl⟩:=PR.bF h; simp [bW]; omega
     split at h
     . obtain ⟨_,_,h1,h⟩:=PR.av h
       obtain ⟨_,_,h2,h⟩:=PR.av h
       obtain ⟨_,_,h3,h⟩:=PR.av h
       obtain ⟨_,_,h4,h⟩:=PR.av h
       obtain ⟨_,_,h5,h⟩:=PR.av h
       have:=kH h1; have:=cZ h2; have:=pe h3; have:=cZ h4; have:=iF h5
       obtain ⟨rfl,rfl⟩:=PR.bF h; simp [bW]; omega
     split at h
     . obtain ⟨_,_,h1,h⟩:=PR.av h
       obtain ⟨_,_,h2,h⟩:=PR.av h
       obtain ⟨_,_,h3,h⟩:=PR.av h
       have:=kH h1; have:=cZ h2; have:=iF h3
       obtain ⟨rfl,rfl⟩:=PR.bF h; simp [bW]; omega
     . exact iO h
   . intro i lev j ns h
     rw [eE] at h
     split at h
     . exact iA h
     split at h
     . split at h
       . obtain ⟨_,_,h1,h⟩:=PR.av h
         have:=iO h1
         obtain ⟨rfl,rfl⟩:=PR.bF h; simp [bW]; omega
       . exact iO h
     . obtain ⟨_,_,h1,h⟩:=PR.av h
       have:=iO h1; have:=iP h
       omega
   . intro i lev left j ns h
     rw [lQ] at h
     split at h
     . obtain ⟨rfl,rfl⟩:=PR.bF h; omega
     split at h
     . obtain ⟨_,_,h1,h⟩:=PR.av h
       have:=pe h1; have:=iP h
       simp [bW] at this; omega
     . obtain ⟨_,_,h1,h⟩:=PR.av h
       have:=iO h1
       split at h
       . obtain ⟨rfl,rfl⟩:=PR.bF h; simp [bW]; omega
       . have:=iP h
         simp [bW] at this; omega
   . intro i j ns h
     rw [gI] at h
     split at h
     . obtain ⟨rfl,rfl⟩:=PR.bF h; simp [bW]; omega
     split at h
     . obtain ⟨rfl,rfl⟩:=PR.bF h; simp [bW]; omega
     split at h
     . obtain ⟨rfl,rfl⟩:=PR.bF h; simp [bW]; omega
     split at h
     . obtain ⟨rfl,rfl⟩:=PR.bF h; simp [bW]; omega
     split at h
     . obtain ⟨_,_,h1,h⟩:=PR.av h
       have:=kH h1
       obtain ⟨rfl,rfl⟩:=PR.bF h; simp [bW]; omega
     split at h
     . obtain ⟨_,_,h1,h⟩:=PR.av h
       have:=kH h1
       obtain ⟨rfl,rfl⟩:=PR.bF h; simp [bW]; omega
     split at h
     . obtain ⟨_,_,h1,h⟩:=PR.av h
       obtain ⟨_,_,h2,h⟩:=PR.av h
       have:=iT h1; have:=cZ h2
       obtain ⟨rfl,rfl⟩:=PR.bF h; omega
     split at h
     . obtain ⟨_,_,h1,h⟩:=PR.av h
       have:=pe h1
       obtain ⟨rfl,rfl⟩:=PR.bF h; simp [bW]; omega
     . obtain ⟨_,_,h1,h⟩:=PR.av h
       have:=kH h1
       split at h
       . obtain ⟨_,_,h2,h⟩:=PR.av h
         obtain ⟨_,_,h3,h⟩:=PR.av h
         obtain ⟨_,_,h4,h⟩:=PR.av h
         have:=iR h2; have:=iG h3; have:=cZ h4
         obtain ⟨rfl,rfl⟩:=PR.bF h; simp [bW]; omega
       . obtain ⟨rfl,rfl⟩:=PR.bF h; simp [bW]; omega
   . intro i acc j ns h
     rw [lG] at h
     split at h
     . obtain ⟨_,_,h1,h⟩:=PR.av h
       have:=iR h1; have:=iG h
       simp at this; omega
     . obtain ⟨rfl,rfl⟩:=PR.bF h; omega
   . intro i j ns h
     rw [jy] at h
     split at h
     . obtain ⟨_,_,h1,h⟩:=PR.av h
       obtain ⟨_,_,h2,h⟩:=PR.av h
       obtain ⟨_,_,h3,h⟩:=PR.av h
       obtain ⟨_,_,h4,h⟩:=PR.av h
       have:=cZ h1; have:=zE (fun h=>EL h) h2; have:=cZ h3; have:=iF h4
       obtain ⟨rfl,rfl⟩:=PR.bF h; simp [bW]; omega
     split at h
     . obtain ⟨_,_,h1,h⟩:=PR.av h
       obtain ⟨_,_,h2,h⟩:=PR.av h
       obtain ⟨_,_,h3,h⟩:=PR.av h
       obtain ⟨_,_,h4,h⟩:=PR.av h
       obtain ⟨_,_,h5,h⟩:=PR.av h
       obtain ⟨_,_,h6,h⟩:=PR.av h
       obtain ⟨_,_,h7,h⟩:=PR.av h
       obtain ⟨_,_,h8,h⟩:=PR.av h
       have:=cZ h1; have:=iF h2; have:=cZ h3; have:=cZ h4; have:=EL h5; have:=cZ h6; have:=iF h7; have:=cZ h8
       obtain ⟨rfl,rfl⟩:=PR.bF h; simp [bW]; omega
     . exact iT h
theorem Pq {f i j:Nat} {ns:List Nd} (h:mL L E f i=.ok ns j):ns.length+i <= j:=by
 unfold mL at h
 split at h
 . obtain ⟨_,_,h1,h⟩:=PR.av h
   obtain ⟨_,_,h2,h⟩:=PR.av h
   obtain ⟨_,_,h3,h⟩:=PR.av h
   obtain ⟨_,_,h4,h⟩:=PR.av h
   have:=kH h1; have:=cZ h2; have:=FE h3; have:=cZ h4
   obtain ⟨rfl,rfl⟩:=PR.bF h; simp [bW]; omega
 . obtain ⟨k,p,h0,h⟩:=PR.av h
   obtain ⟨_,_,h1,h⟩:=PR.av h
   obtain ⟨_,_,h2,h⟩:=PR.av h
   obtain ⟨_,_,h3,h⟩:=PR.av h
   obtain ⟨_,_,h4,h⟩:=PR.av h
   obtain ⟨_,_,h5,h⟩:=PR.av h
   obtain ⟨_,_,h6,h⟩:=PR.av h
   obtain ⟨_,_,h7,h⟩:=PR.av h
   obtain ⟨_,_,h8,h⟩:=PR.av h
   obtain ⟨_,_,h9,h⟩:=PR.av h
   have hp:p=i+1:=by
    split at h0
    . exact (PR.bF h0).2.symm
    . obtain ⟨_,_,g1,g2⟩:=PR.av h0
      have:=cZ g1
      have:=(PR.bF g2).2
      omega
   have h3':∀ {a:List Nd} {j q:Nat},(if bj L j cC=true then (PR.ok [] j:PR (List Nd)) else jT L (j9 L E f) f j)=.ok a q->a.length+j <= q:=fun h=>by
    split at h
    . obtain ⟨rfl,rfl⟩:=PR.bF h; simp
    . exact zE (fun h=>Nh h) h
   have:=kH h1; have:=cZ h2; have:=h3' h3; have:=cZ h4; have:=cZ h5; have:=uS h6; have:=cZ h7; have:=(TN f).1 h8; have:=cZ h9
   obtain ⟨rfl,rfl⟩:=PR.bF h; simp [bW]; omega
end
end Go.Rip
