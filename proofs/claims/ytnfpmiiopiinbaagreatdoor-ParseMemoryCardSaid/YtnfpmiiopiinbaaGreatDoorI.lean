import Derived.Test.YtnfpmiiopiinbaaGreatDoorD
import Derived.Lib.Atoi
set_option linter.all false
namespace Go.Rip
abbrev aT:=List UInt8
structure Tk where
 k:Nat
 s:aT
 at_:Nat
 deriving DecidableEq
structure Nd where
 kind:Int
 text:aT
 n:Int
 m:Int
 at_:Int
 size:Int
 deriving DecidableEq
def fE(c:UInt8):Bool:=decide (48<=c.toNat/\c.toNat<=57)
def lY(c:UInt8):Bool:=decide (97<=c.toNat/\c.toNat<=122)
def BC(c:UInt8):Bool:=decide (65<=c.toNat/\c.toNat<=90)
def dp(c:UInt8):Bool:=fE c||lY c||BC c
def kO(c:UInt8):Bool:=decide (c.toNat=10\/32<=c.toNat/\c.toNat<=126)
def Iy(s:aT):Int:=s.foldl (λn c=>min (10*n+((c.toNat:Int)-48)) 1000001) 0
def xN(s:aT):Int:=s.foldl (λn c=>10*n+((c.toNat:Int)-48)) 0
def mO(s:aT):Int:=if s.all fE=false then 4 else if 1<s.length/\s.head?=some 48 then 4 else if 1000000<Iy s then 3 else 0
def j0:List aT:=[sY,su,sN,kh,jz,vR,jc,vr,gh,eW,eK,wJ,vS,iZ,uy,eD,jQ,lq,lL,mJ,qQ,uA,jR,ahw,wL,uB,gG,qi,eA,lU]
def fF:List aT:=[bY,gn,gH,pX,pW,oY,qO,ni,dM,dE,qP,sX,ep,dF,ef,sW]
def hY(s:aT):Int×Nat×aT :=
 let w:=s.takeWhile dp
 match w with
 | []=>match fF.find? λx=>x.isPrefixOf s with
   | some x=>(0,4,x)
   | none=>(4,0,[])
 | c::_=>if fE c then (mO w,2,w) else if lY c=false then (4,0,[]) else if w∈j0 then (0,3,w) else if 12<w.length then (4,0,[]) else (0,1,w)
inductive Lh where
 | ok (l:List Tk)
 | bad (p:Nat) (e:Int)
def iy:Nat->aT->Nat->List Tk->Lh
 | 0,_,_,l=>.ok l
 | f+1,s,p,l=>match s.drop p with
   | []=>.ok l
   | c::r=>if c.toNat=32\/c.toNat=10 then iy f s (p+1) l
     else if c.toNat=126 then iy f s (p+((c::r).takeWhile λc=>c.toNat≠10).length) l
     else match hY (c::r) with
      | (e,k,t)=>if e≠0 then .bad p e else if l.length=900 then .bad p 5 else iy f s (p+t.length) (l++[⟨k,t,p⟩])
def pG(s:aT):Nat×Int:=if 2500<s.length then (0,5) else match s.findIdx? (λc=>!kO c) with|some i=>(i,2)|none=>(0,0)
def lF(s:aT):Lh:=match pG s with
 | (p,e)=>if e≠0 then .bad p e else iy s.length s 0 []
inductive PR (α:Type) where
 | ok (a:α) (i:Nat)
 | bad (i:Nat)
 | out
def PR.bind{α β:Type}(x:PR α)(f:α->Nat->PR β):PR β:=match x with
 | .ok a i=>f a i
 | .bad i=>.bad i
 | .out=>.out
def node(kind:Int)(text:aT)(n m at_:Int)(kids:List Nd):List Nd:=⟨kind,text,n,m,at_,(kids.length:Int)+1⟩::kids
section
variable (L:List Tk)(E:Nat)
def cT(i:Nat):Int:=match L[i]? with|some t=>t.at_|none=>E
def bP(i:Nat)(w:aT):Bool:=match L[i]? with|some t=>(t.k==3||t.k==4)&&t.s==w|none=>false
def ij(i:Nat)(k:Nat):Bool:=match L[i]? with|some t=>t.k==k|none=>false
def zH(i:Nat):Bool:=bP L i eD||bP L i jc||bP L i eW
def bR(w:aT)(i:Nat):PR Unit:=if bP L i w=true then .ok () (i+1) else .bad i
def fO(i:Nat):PR aT:=match L[i]? with|some t=>if t.k=1 then .ok t.s (i+1) else .bad i|none=>.bad i
def js(i:Nat):PR Int:=match L[i]? with|some t=>if t.k=2 then .ok (xN t.s) (i+1) else .bad i|none=>.bad i
def mG(one:Nat->PR (List Nd)):Nat->List Nd->Nat->PR (List Nd)
 | 0,_,_=>.out
 | f+1,acc,i=>if bP L i ep=true then (one (i+1)).bind λb j=>mG one f (acc++b) j else .ok acc i
def mF(one:Nat->PR (List Nd))(f:Nat)(i:Nat):PR (List Nd):=(one i).bind λa j=>mG L one f a j
def jh(i:Nat):PR (List Nd) :=
 if bP L i vR=true then .ok (node 6 [] 1 0 (cT L E i) []) (i+1)
 else if bP L i sN=true then .ok (node 6 [] 2 0 (cT L E i) []) (i+1)
 else if bP L i kh=true then (js L (i+1)).bind λn j=>.ok (node 7 [] n 0 (cT L E i) []) j
 else (bR L lq i).bind λ_ j=>(js L j).bind λn j=>.ok (node 6 [] n 0 (cT L E i) []) j
def oX(f:Nat)(i:Nat):PR (List Nd) :=
 if bP L i dM=true then (mF L (jh L E) f (i+1)).bind λa j=>(bR L dE j).bind λ_ j=>(bR L gn j).bind λ_ j=>(jh L E j).bind λb j=>.ok (node 8 [] 0 0 (cT L E i) (a++b)) j
 else jh L E i
def jM(f:Nat)(i:Nat):PR (List Nd):=(fO L i).bind λx j=>(bR L ef j).bind λ_ j=>(oX L E f j).bind λa j=>.ok (node 5 x 0 0 (cT L E i) a) j
def mY(i:Nat):PR (List Nd):=(fO L i).bind λx j=>.ok (node 37 x 0 0 (cT L E i) []) j
def mi(lev:Nat)(i:Nat):Option Int :=
 if lev=2 then if bP L i wL=true then some 17 else none
 else if lev=3 then if bP L i sY=true then some 18 else none
 else if lev=5 then if bP L i gH=true then some 20 else if bP L i pX=true then some 21 else none
 else if lev=6 then if bP L i pW=true then some 22 else if bP L i oY=true then some 23 else none
 else if lev=7 then if bP L i qO=true then some 24 else none
 else if lev=8 then if bP L i su=true then some 25 else none
 else none
mutual
def iE:Nat->Nat->PR (List Nd)
 | 0,_=>.out
 | f+1,i=>(cM f i).bind λa j=>mr f (cT L E j) a 1 j
def mr:Nat->Int->List Nd->Nat->Nat->PR (List Nd)
 | 0,_,_,_,_=>.out
 | f+1,at_,acc,many,i=>if bP L i dF=true/\i+1<L.length/\zH L (i+1)=false then (cM f (i+1)).bind λb j=>mr f at_ (acc++b) (many+1) j
   else .ok (if many=1 then acc else node 9 [] 0 0 at_ acc) i
def cM:Nat->Nat->PR (List Nd)
 | 0,_=>.out
 | f+1,i =>
   if bP L i uy=true then (cM f (i+1)).bind λc j=>(bR L qi j).bind λ_ j=>(cM f j).bind λa j=>(bR L gh j).bind λ_ j=>(cM f j).bind λb j=>.ok (node 10 [] 0 0 (cT L E i) (c++a++b)) j
   else if bP L i lU=true then (cM f (i+1)).bind λa j=>(bR L vr j).bind λ_ j=>(cM f j).bind λb j=>.ok (node 11 [] 0 0 (cT L E i) (a++b)) j
   else if bP L i qQ=true then (fO L (i+1)).bind λx j=>(bR L ef j).bind λ_ j=>(js L j).bind λn j=>(bR L bY j).bind λ_ j=>(js L j).bind λm j=>(bR L jQ j).bind λ_ j=>(cM f j).bind λa j=>.ok (node 12 x n m (cT L E i) a) j
   else if bP L i mJ=true then (fO L (i+1)).bind λx j=>(bR L jQ j).bind λ_ j=>(cM f j).bind λa j=>(bR L gh j).bind λ_ j=>(cM f j).bind λb j=>.ok (node 13 x 0 0 (cT L E i) (a++b)) j
   else if bP L i jz=true then (cM f (i+1)).bind λa j=>(bR L gh j).bind λ_ j=>(cM f j).bind λb j=>.ok (node 15 [] 0 0 (cT L E i) (a++b)) j
   else if bP L i jR=true then (fO L (i+1)).bind λx j=>(bR L bY j).bind λ_ j=>(js L j).bind λn j=>(bR L jQ j).bind λ_ j=>(cM f j).bind λa j=>.ok (node 14 x n 0 (cT L E i) a) j
   else if ij L i 1=true/\bP L (i+1) bY=true then (fO L i).bind λx j=>(bR L bY j).bind λ_ j=>(cM f j).bind λa j=>.ok (node 16 x 0 0 (cT L E i) a) j
   else fZ f 2 i
def fZ:Nat->Nat->Nat->PR (List Nd)
 | 0,_,_=>.out
 | f+1,lev,i =>
   if lev=9 then lX f i
   else if lev=4 then if bP L i uA=true then (fZ f 4 (i+1)).bind λa j=>.ok (node 19 [] 0 0 (cT L E i) a) j else fZ f 5 i
   else (fZ f (lev+1) i).bind λa j=>ky f lev a j
def ky:Nat->Nat->List Nd->Nat->PR (List Nd)
 | 0,_,_,_=>.out
 | f+1,lev,left,i=>match mi L lev i with
   | none=>.ok left i
   | some kind=>if lev=8 then (js L (i+1)).bind λn j=>ky f lev (node kind [] n 0 (cT L E i) left) j
     else (fZ f (lev+1) (i+1)).bind λb j=>if lev=5 then .ok (node kind [] 0 0 (cT L E i) (left++b)) j else ky f lev (node kind [] 0 0 (cT L E i) (left++b)) j
def lX:Nat->Nat->PR (List Nd)
 | 0,_=>.out
 | f+1,i =>
   if bP L i eA=true then .ok (node 27 [] 0 0 (cT L E i) []) (i+1)
   else if bP L i eK=true then .ok (node 28 [] 0 0 (cT L E i) []) (i+1)
   else if bP L i gG=true then .ok (node 29 [] 0 0 (cT L E i) []) (i+1)
   else if bP L i iZ=true then .ok (node 30 [] 0 0 (cT L E i) []) (i+1)
   else if bP L i lL=true then (fO L (i+1)).bind λx j=>.ok (node 31 x 0 0 (cT L E i) []) j
   else if bP L i ni=true then (fO L (i+1)).bind λx j=>.ok (node 32 x 0 0 (cT L E i) []) j
   else if bP L i dM=true then (iE f (i+1)).bind λa j=>(bR L dE j).bind λ_ j=>.ok a j
   else if ij L i 2=true then (js L i).bind λn j=>.ok (node 26 [] n 0 (cT L E i) []) j
   else (fO L i).bind λx j=>if bP L j dM=true then (jX f (j+1)).bind λa j=>(ki f a j).bind λa j=>(bR L dE j).bind λ_ j=>.ok (node 34 x 0 0 (cT L E i) a) j
    else .ok (node 33 x 0 0 (cT L E i) []) j
def ki:Nat->List Nd->Nat->PR (List Nd)
 | 0,_,_=>.out
 | f+1,acc,i=>if bP L i ep=true then (jX f (i+1)).bind λb j=>ki f (acc++b) j else .ok acc i
def jX:Nat->Nat->PR (List Nd)
 | 0,_=>.out
 | f+1,i =>
   if bP L i wJ=true then (bR L dM (i+1)).bind λ_ j=>(mF L (mY L E) (L.length+1) j).bind λa j=>(bR L dE j).bind λ_ j=>(cM f j).bind λb j=>.ok (node 35 [] 0 0 (cT L E i) (a++b)) j
   else if bP L i qP=true then (bR L vS (i+1)).bind λ_ j=>(cM f j).bind λa j=>(bR L dF j).bind λ_ j=>(bR L uB j).bind λ_ j=>(mY L E j).bind λb j=>(bR L sW j).bind λ_ j=>(cM f j).bind λc j=>(bR L sX j).bind λ_ j=>.ok (node 36 [] 0 0 (cT L E i) (a++b++c)) j
   else iE f i
end
def lH(f:Nat)(i:Nat):PR (List Nd) :=
 if bP L i eD=true then (fO L (i+1)).bind λx j=>(bR L ef j).bind λ_ j=>(oX L E f j).bind λa j=>(bR L dF j).bind λ_ j=>.ok (node 2 x 0 0 (cT L E i) a) j
 else (if bP L i jc=true then .ok 3 (i+1) else (bR L eW i).bind λ_ j=>.ok 4 j:PR Int).bind λk j =>
  (fO L j).bind λx j=>(bR L dM j).bind λ_ j =>
  (if bP L j dE=true then .ok [] j else mF L (jM L E f) f j).bind λa j =>
  (bR L dE j).bind λ_ j=>(bR L ef j).bind λ_ j=>(jh L E j).bind λb j=>(bR L gH j).bind λ_ j=>(iE L E f j).bind λc j =>
  (bR L dF j).bind λ_ j=>.ok (node k x 0 0 (cT L E i) (a++b++c)) j
def fuel:Nat:=40*(L.length+2)
def ri:Nat->List Nd->Nat->PR (List Nd)
 | 0,_,_=>.out
 | f+1,acc,i=>if i<L.length then (lH L E (fuel L) i).bind λa j=>ri f (acc++a) j else .ok acc i
end
def Gd{α:Type}(n lo lb:Nat):PR α->Prop
 | .ok _ j=>lo<=j/\j<=n
 | .bad j=>lb<=j/\j<=n
 | .out=>False
variable {f k:Nat}{one:Nat->PR (List Nd)}{w:aT}
section
variable {α β:Type}{n lo JX lb i:Nat}{L:List Tk}{E:Nat}
def Gd.bind{x:PR α}{f:α->Nat->PR β}(h:Gd n lo lb x)(k:∀a j,lo<=j->j<=n->Gd n JX lb (f a j)):Gd n JX lb (x.bind f):=by
 cases x with
 | ok a j=>exact k a j h.1 h.2
 | bad j=>exact h
 | out=>exact h.elim
def Gd.ite{c:Prop}[Decidable c]{x y:PR α}(h:c->Gd n lo lb x)(k:¬ c->Gd n lo lb y):Gd n lo lb (if c then x else y):=by
 split
 . exact h ‹_›
 . exact k ‹_›
def Gd.low{x:PR α}(h:Gd n lo lb x)(k:JX<=lo):Gd n JX lb x:=by
 cases x with
 | ok a j=>exact⟨Nat.le_trans k h.1,h.2⟩
 | bad j=>exact h
 | out=>exact h
def Gd.yi{lb':Nat}{x:PR α}(h:Gd n lo lb x)(k:lb'<=lb):Gd n lo lb' x:=by
 cases x with
 | ok a j=>exact h
 | bad j=>exact⟨Nat.le_trans k h.1,h.2⟩
 | out=>exact h
def Gd.at'{lb':Nat}{x:PR α}(h:Gd n lo lb x)(k:JX<=lo)(k':lb'<=lb):Gd n JX lb' x:=(h.low k).yi k'
def de(h:bP L i w):i<L.length:=by
 unfold bP at h;split at h
 . rename_i t ht;exact (dw.1 ht).1
 . cases h
def aeG(h:ij L i k):i<L.length:=by
 unfold ij at h;split at h
 . rename_i t ht;exact (dw.1 ht).1
 . cases h
def eo(h:i<=L.length):Gd L.length (i+1) i (bR L w i):=by
 unfold bR;exact .ite (λc=>⟨da _,de c⟩) λ_=>⟨da _,h⟩
def nK(h:i<=L.length):Gd L.length (i+1) i (fO L i):=by
 unfold fO;split
 . rename_i t ht;have:=(dw.1 ht).1;exact .ite (λc=>⟨da _,this⟩) λ_=>⟨da _,h⟩
 . exact⟨da _,h⟩
def tf(h:i<=L.length):Gd L.length (i+1) i (js L i):=by
 unfold js;split
 . rename_i t ht;have:=(dw.1 ht).1;exact .ite (λc=>⟨da _,this⟩) λ_=>⟨da _,h⟩
 . exact⟨da _,h⟩
def MX(h1:∀i,i<=L.length->Gd L.length (i+1) i (one i)):∀(f:Nat)(acc:List Nd)(i:Nat),i<=L.length->L.length-i<f->Gd L.length i i (mG L one f acc i)
 | 0,acc,i,hi,hf=>by omega
 | f+1,acc,i,hi,hf=>by
   unfold mG;refine .ite (λc=>?_) λ_=>⟨da _,hi⟩;have:=de c;refine ((h1 (i+1) this).yi (lb':=i) d6).bind λb j h2 h3=>?_;exact (MX h1 f _ j h3 d6).at' d6 d6
def FQ(h1:∀i,i<=L.length->Gd L.length (i+1) i (one i))(hi:i<=L.length)(hf:L.length-i<=f)(h0:0<f):Gd L.length (i+1) i (mF L one f i):=by
 unfold mF;refine (h1 i hi).bind λa j h2 h3=>?_;exact (MX h1 f _ j h3 d6).at' d6 d6
def qT(h:i<=L.length):Gd L.length (i+1) i (jh L E i):=by
 unfold jh;refine .ite (λc=>⟨da _,de c⟩) λ_=>.ite (λc=>⟨da _,de c⟩) λ_=>.ite (λc=>?_) λ_=>?_
 . have:=de c;exact ((tf this).yi (lb':=i) d6).bind λa j h2 h3=>⟨d6,h3⟩
 . refine (eo h).bind λa j h2 h3=>?_;exact ((tf h3).yi (lb':=i) d6).bind λa j h2 h3=>⟨d6,h3⟩
def yg(h:i<=L.length)(hf:L.length<f):Gd L.length (i+1) i (oX L E f i):=by
 unfold oX;refine .ite (λc=>?_) λ_=>qT h;have:=de c;refine ((FQ (λi hi=>qT hi) this d6 d6).yi (lb':=i) d6).bind λa j h2 h3=>?_;refine ((eo h3).yi (lb':=i) d6).bind λa j h4 h5=>?_;refine ((eo h5).yi (lb':=i) d6).bind λa j h6 h7=>?_;exact ((qT h7).yi (lb':=i) d6).bind λa j h8 h9=>⟨d6,h9⟩
def DE(h:i<=L.length)(hf:L.length<f):Gd L.length (i+1) i (jM L E f i):=by
 unfold jM;refine (nK h).bind λa j h2 h3=>?_;refine ((eo h3).yi (lb':=i) d6).bind λa j h4 h5=>?_;exact ((yg h5 hf).yi (lb':=i) d6).bind λa j h8 h9=>⟨d6,h9⟩
def xL(h:i<=L.length):Gd L.length (i+1) i (mY L E i):=by
 unfold mY;exact (nK h).bind λa j h2 h3=>⟨h2,h3⟩
def Gd.step{lo1 lb1:Nat}{x:PR α}{f:α->Nat->PR β}(h:Gd n lo1 lb1 x)(hb:lb<=lb1)(k:∀a j,lo1<=j->j<=n->Gd n JX lb (f a j)):Gd n JX lb (x.bind f):=(h.yi hb).bind k
def Qo{lev:Nat}{k:Int}(h:mi L lev i=some k):i<L.length:=by
 unfold mi at h
 repeat' (split at h)
 all_goals first
  | (cases h;done)
  | exact de ‹_›
def uV:∀f:Nat,
 (∀i,i<=L.length->40*(L.length-i)+11<=f->Gd L.length (i+1) i (iE L E f i)) /\
 (∀i at_ acc many,i<=L.length->40*(L.length-i)+1<=f->Gd L.length i i (mr L E f at_ acc many i)) /\
 (∀i,i<=L.length->40*(L.length-i)+10<=f->Gd L.length (i+1) i (cM L E f i)) /\
 (∀i lev,i<=L.length->lev<=9->40*(L.length-i)+(11-lev)<=f->Gd L.length (i+1) i (fZ L E f lev i)) /\
 (∀i lev left,i<=L.length->lev<=8->40*(L.length-i)+1<=f->Gd L.length i i (ky L E f lev left i)) /\
 (∀i,i<=L.length->40*(L.length-i)+1<=f->Gd L.length (i+1) i (lX L E f i)) /\
 (∀i acc,i<=L.length->40*(L.length-i)+1<=f->Gd L.length i i (ki L E f acc i)) /\
 (∀i,i<=L.length->40*(L.length-i)+12<=f->Gd L.length (i+1) i (jX L E f i)):=by
 intro f
 induction f with
 | zero=>refine⟨?_,?_,?_,?_,?_,?_,?_,?_⟩<;>intros<;>omega
 | succ f ih =>
   obtain⟨iT,iS,iF,iO,iP,iA,iG,iR⟩:=ih;refine⟨?_,?_,?_,?_,?_,?_,?_,?_⟩
   . intro i hi hf;rw[iE];refine (iF i hi d6).bind λa j h1 h2=>?_;exact (iS j _ _ _ h2 d6).at' d6 d6
   . intro i at_ acc many hi hf;rw[mr];refine .ite (λc=>?_) λ_=>⟨da _,hi⟩;have h0:=de c.1;refine (iF (i+1) d6 d6).step d6 λa j h1 h2=>?_;exact (iS j _ _ _ h2 d6).at' d6 d6
   . intro i hi hf;rw[cM];refine .ite (λc=>?_) λ_=>.ite (λc=>?_) λ_=>.ite (λc=>?_) λ_=>.ite (λc=>?_) λ_=>.ite (λc=>?_) λ_=>.ite (λc=>?_) λ_=>.ite (λc=>?_) λ_=>?_
     . have h0:=de c;refine (iF (i+1) d6 d6).step d6 λa j h1 h2=>(eo h2).step d6 λa j h3 h4=>(iF j d6 d6).step d6 λa j h5 h6=>(eo h6).step d6 λa j h7 h8=>(iF j d6 d6).step d6 λa j h9 n0=>⟨d6,n0⟩
     . have h0:=de c;exact (iF (i+1) d6 d6).step d6 λa j h1 h2=>(eo h2).step d6 λa j h3 h4=>(iF j d6 d6).step d6 λa j h5 h6=>⟨d6,h6⟩
     . have h0:=de c;exact (nK h0).step d6 λa j h1 h2=>(eo h2).step d6 λa j h3 h4=>(tf h4).step d6 λa j h5 h6=>(eo h6).step d6 λa j h7 h8=>(tf h8).step d6 λa j h9 n0=>(eo n0).step d6 λa j Al Am=>(iF j d6 d6).step d6 λa j h13 TM=>⟨d6,TM⟩
     . have h0:=de c;exact (nK h0).step d6 λa j h1 h2=>(eo h2).step d6 λa j h3 h4=>(iF j d6 d6).step d6 λa j h5 h6=>(eo h6).step d6 λa j h7 h8=>(iF j d6 d6).step d6 λa j h9 n0=>⟨d6,n0⟩
     . have h0:=de c;exact (iF (i+1) d6 d6).step d6 λa j h1 h2=>(eo h2).step d6 λa j h3 h4=>(iF j d6 d6).step d6 λa j h5 h6=>⟨d6,h6⟩
     . have h0:=de c;exact (nK h0).step d6 λa j h1 h2=>(eo h2).step d6 λa j h3 h4=>(tf h4).step d6 λa j h5 h6=>(eo h6).step d6 λa j h7 h8=>(iF j d6 d6).step d6 λa j h9 n0=>⟨d6,n0⟩
     . have h0:=aeG c.1;exact (nK hi).step d6 λa j h1 h2=>(eo h2).step d6 λa j h3 h4=>(iF j d6 d6).step d6 λa j h5 h6=>⟨d6,h6⟩
     . exact iO i 2 hi d6 d6
   . intro i lev hi hl hf;rw[fZ];refine .ite (λc=>?_) λc9=>.ite (λc=>.ite (λd=>?_) λd=>?_) λc4=>?_
     . exact iA i hi d6
     . have h0:=de d;exact (iO (i+1) 4 d6 d6 d6).step d6 λa j h1 h2=>⟨d6,h2⟩
     . exact iO i 5 hi d6 d6
     . refine (iO i (lev+1) hi d6 d6).bind λa j h1 h2=>?_;exact (iP j lev a h2 d6 d6).at' d6 d6
   . intro i lev left hi hl hf;rw[ky];split
     . exact⟨da _,hi⟩
     . rename_i k hk;have h0:=Qo hk;refine .ite (λc=>?_) λc=>?_
       . exact (tf h0).step d6 λa j h1 h2=>(iP j lev _ h2 hl d6).at' d6 d6
       . refine (iO (i+1) (lev+1) h0 d6 d6).step d6 λa j h1 h2=>.ite (λ_=>⟨d6,h2⟩) λ_=>?_;exact (iP j lev _ h2 hl d6).at' d6 d6
   . intro i hi hf;rw[lX];refine .ite (λc=>⟨da _,de c⟩) λ_=>.ite (λc=>⟨da _,de c⟩) λ_=>.ite (λc=>⟨da _,de c⟩) λ_=>.ite (λc=>⟨da _,de c⟩) λ_=>.ite (λc=>?_) λ_=>.ite (λc=>?_) λ_=>.ite (λc=>?_) λ_=>.ite (λc=>?_) λ_=>?_
     . have h0:=de c;exact (nK h0).step d6 λa j h1 h2=>⟨d6,h2⟩
     . have h0:=de c;exact (nK h0).step d6 λa j h1 h2=>⟨d6,h2⟩
     . have h0:=de c;exact (iT (i+1) d6 d6).step d6 λa j h1 h2=>(eo h2).step d6 λa j h3 h4=>⟨d6,h4⟩
     . exact (tf hi).step d6 λa j h1 h2=>⟨d6,h2⟩
     . refine (nK hi).step d6 λa j h1 h2=>.ite (λc=>?_) λ_=>⟨d6,h2⟩;have h0:=de c;exact (iR (j+1) d6 d6).step d6 λa j h3 h4=>(iG j _ h4 d6).step d6 λa j h5 h6=>(eo h6).step d6 λa j h7 h8=>⟨d6,h8⟩
   . intro i acc hi hf;rw[ki];refine .ite (λc=>?_) λ_=>⟨da _,hi⟩;have h0:=de c;exact (iR (i+1) d6 d6).step d6 λa j h1 h2=>(iG j _ h2 d6).at' d6 d6
   . intro i hi hf;rw[jX];refine .ite (λc=>?_) λ_=>.ite (λc=>?_) λ_=>?_
     . have h0:=de c;exact (eo h0).step d6 λa j h1 h2=>(FQ (λi hi=>xL hi) h2 d6 d6).step d6 λa j h3 h4=>(eo h4).step d6 λa j h5 h6=>(iF j d6 d6).step d6 λa j h7 h8=>⟨d6,h8⟩
     . have h0:=de c;exact (eo h0).step d6 λa j h1 h2=>(iF j d6 d6).step d6 λa j h3 h4=>(eo h4).step d6 λa j h5 h6=>(eo h6).step d6 λa j h7 h8=>(xL h8).step d6 λa j h9 n0=>(eo n0).step d6 λa j Al Am=>(iF j d6 d6).step d6 λa j h13 TM=>(eo TM).step d6 λa j h15 h16=>⟨d6,h16⟩
     . exact iT i hi d6
def MI(hi:i<=L.length)(hf:40*(L.length-i)+11<=f)(nv:L.length<f):Gd L.length (i+1) i (lH L E f i):=by
 unfold lH;refine .ite (λc=>?_) λ_=>?_
 . have h0:=de c;exact (nK h0).step d6 λa j h1 h2=>(eo h2).step d6 λa j h3 h4=>(yg h4 nv).step d6 λa j h5 h6=>(eo h6).step d6 λa j h7 h8=>⟨d6,h8⟩
 . refine Gd.bind (lo:=i+1) (.ite (λc=>⟨da _,de c⟩) λ_=>(eo hi).bind λa j h1 h2=>⟨h1,h2⟩) λk j h1 h2=>?_;refine (nK h2).step d6 λa j h3 h4=>(eo h4).step d6 λa j h5 h6=>?_;refine Gd.step (lo1:=j) (lb1:=j) (.ite (λc=>⟨da _,h6⟩) λ_=>(FQ (λi hi=>DE hi nv) h6 d6 d6).low d6) d6 λa j h7 h8=>?_;exact (eo h8).step d6 λa j h9 n0=>(eo n0).step d6 λa j Al Am=>(qT Am).step d6 λa j h13 TM=>(eo TM).step d6 λa j h15 h16=>((uV f).1 j h16 d6).step d6 λa j h17 h18=>(eo h18).step d6 λa j h19 h20=>⟨d6,h20⟩
def RN(hi:i<=L.length):Gd L.length (i+1) i (lH L E (fuel L) i):=MI hi (by unfold fuel;omega) (by unfold fuel;omega)
end
def o4(t:Tk):Prop:=t.s≠[]/\hY t.s=(0,t.k,t.s)
def A0(p:UInt8->Bool):∀l:aT,(l.takeWhile p).takeWhile p=l.takeWhile p
 | []=>rfl
 | c::l=>by
   simp only[om];cases h:p c with
   | true=>simp[h,A0 p l]
   | false=>rfl
def Nw:∀x∈fF,hY x=(0,4,x)/\x≠[]:=by decide
variable {s:aT}
def A6{t:aT}(h:hY s=(0,k,t)):o4 ⟨k,t,0⟩/\t <+: s:=by
 have hid:=A0 dp s;have td:=vb dp (l:=s);unfold hY at h;simp only at h;split at h
 . rename_i hw;split at h
   . rename_i x hx;simp only[jK,true_and]at h;obtain⟨rfl,rfl⟩:=h;have hm:=List.mem_of_find?_eq_some hx;have hp:=List.find?_some hx;exact⟨⟨(Nw _ hm).2,(Nw _ hm).1⟩,List.isPrefixOf_iff_prefix.1 hp⟩
   . simp at h
 . rename_i c r hw;have key:∀{e:Int}{k:Nat},hY (s.takeWhile dp)=(e,k,s.takeWhile dp)->e=0->o4 ⟨k,s.takeWhile dp,0⟩/\s.takeWhile dp <+: s:=λh1 h2=>⟨⟨by simp[hw],by rw[h1,h2]⟩,td⟩;split at h
   . rename_i hd;simp only[jK]at h;obtain⟨h1,rfl,rfl⟩:=h;refine key ?_ h1;unfold hY;simp only[hid];rw[hw];simp only[if_pos hd]
   . rename_i hd;split at h
     . simp at h
     . rename_i hs;split at h
       . rename_i hk;simp only[jK,true_and]at h;obtain⟨rfl,rfl⟩:=h;refine key ?_ rfl;unfold hY;simp only[hid];rw[hw]at hk ⊢;simp only[if_neg hd,if_neg hs,if_pos hk]
       . rename_i hk;split at h
         . simp at h
         . rename_i hl;simp only[jK,true_and]at h;obtain⟨rfl,rfl⟩:=h;refine key ?_ rfl;unfold hY;simp only[hid];rw[hw]at hk hl ⊢;simp only[if_neg hd,if_neg hs,if_neg hk,if_neg hl]
def Es:∀(f:Nat)(s:aT)(p:Nat)(l:List Tk){L:List Tk},iy f s p l=.ok L->(∀t∈l,o4 t)->l.length<=900->(∀t∈L,o4 t)/\L.length<=900
 | 0,s,p,l,L,h,hl,hn=>by simp only[iy,Lh.ok.injEq]at h;subst h;exact⟨hl,hn⟩
 | f+1,s,p,l,L,h,hl,hn=>by
   simp only[iy]at h;split at h
   . simp only[Lh.ok.injEq]at h;subst h;exact⟨hl,hn⟩
   . split at h
     . exact Es f s _ l h hl hn
     . split at h
       . exact Es f s _ l h hl hn
       . split at h
         . cases h
         . rename_i he;split at h
           . cases h
           . rename_i hc;refine Es f s _ _ h (λt ht=>?_) (by simp;omega);simp only[gV,lT]at ht;rcases ht with ht|rfl
             . exact hl t ht
             . have n6:(hY _).1=0:=Decidable.not_not.1 he;exact (A6 (Prod.ext n6 rfl)).1
def Iq{L:List Tk}(h:lF s=.ok L):(∀t∈L,o4 t)/\L.length<=900:=by
 unfold lF at h;split at h;split at h
 . cases h
 . exact Es _ _ _ _ h d8 d8
def kx(a:Int)(s:aT):Int:=s.foldl (λn c=>min (10*n+((c.toNat:Int)-48)) 1000001) a
def oh(a:Int)(s:aT):Int:=s.foldl (λn c=>10*n+((c.toNat:Int)-48)) a
def lA{c:UInt8}:fE c=true↔48<=c.toNat/\c.toNat<=57:=by simp[fE]
def Ev:∀(s:aT)(a:Int),a<=1000001->kx a s<=1000001
 | [],a,h=>h
 | c::s,a,h=>Ev s (min (10*a+((c.toNat:Int)-48)) 1000001) d6
def u6:∀(s:aT)(a:Int),s.all fE->0<=a->min a 1000001<=kx a s
 | [],a,_,h=>by simp[kx];omega
 | c::s,a,hd,h=>by
   simp only[List.all_cons,cS]at hd;have h1:=lA.1 hd.1;have:=u6 s (min (10*a+((c.toNat:Int)-48)) 1000001) hd.2 d6;have e:kx a (c::s)=kx (min (10*a+((c.toNat:Int)-48)) 1000001) s:=rfl;omega
def J5:∀(s:aT)(a:Int),s.all fE->0<=a->kx a s<=1000000->kx a s=oh a s
 | [],a,_,_,_=>rfl
 | c::s,a,hd,h,hl=>by
   simp only[List.all_cons,cS]at hd;have h1:=lA.1 hd.1;have e:kx a (c::s)=kx (min (10*a+((c.toNat:Int)-48)) 1000001) s:=rfl;have e2:oh a (c::s)=oh (10*a+((c.toNat:Int)-48)) s:=rfl;have hg:=u6 s (min (10*a+((c.toNat:Int)-48)) 1000001) hd.2 d6;have hm:min (10*a+((c.toNat:Int)-48)) 1000001=10*a+((c.toNat:Int)-48):=by omega
   rw[hm]at e;rw[e,e2];exact J5 s _ hd.2 d6 d6
def M9:∀(s:aT)(a:Int),s.all fE->1<=a->kx a s<=1000000->10 ^ s.length*a<=kx a s
 | [],a,_,_,_=>by simp[kx]
 | c::s,a,hd,h,hl=>by
   simp only[List.all_cons,cS]at hd;have h1:=lA.1 hd.1;have e:kx a (c::s)=kx (min (10*a+((c.toNat:Int)-48)) 1000001) s:=rfl;have hg:=u6 s (min (10*a+((c.toNat:Int)-48)) 1000001) hd.2 d6;have hm:min (10*a+((c.toNat:Int)-48)) 1000001=10*a+((c.toNat:Int)-48):=by omega
   rw[hm]at e;rw[e]at hl ⊢;have:=M9 s _ hd.2 d6 hl;have hp:(0:Int)<10 ^ s.length:=Int.pow_pos d6;have:10 ^ s.length*(10*a)<=10 ^ s.length*(10*a+((c.toNat:Int)-48)):=Int.mul_le_mul_of_nonneg_left d6 d6;rw[jm,Int.pow_succ,Int.mul_assoc];omega
def Eu(h:mO s=0):s.all fE/\¬ (1<s.length/\s.head?=some 48)/\Iy s<=1000000:=by
 unfold mO at h;split at h
 . cases h
 . rename_i h1;split at h
   . cases h
   . rename_i h2;split at h
     . cases h
     . rename_i h3;exact⟨by simpa using h1,h2,d6⟩
def zd(h0:s≠[])(h:mO s=0):1<=s.length/\s.length<=7/\Iy s=xN s/\0<=xN s/\xN s<=1000000:=by
 obtain⟨h1,h2,h3⟩:=Eu h;have hv:Iy s=kx 0 s:=rfl;have hd:xN s=oh 0 s:=rfl;have e:=J5 s 0 h1 d6 d6;have hg:=u6 s 0 h1 d6;refine⟨?_,?_,d6,d6,d6⟩
 . cases s with
   | nil=>exact absurd rfl h0
   | cons c s=>simp
 . cases s with
   | nil=>simp
   | cons c s =>
     simp only[List.all_cons,cS]at h1;have hc:=lA.1 h1.1;rcases ik s.length 1 with hl|hl
     . simp;omega
     . have Jr:c≠48:=λe=>h2 ⟨by simp;omega,by simp[e]⟩;have yR:c.toNat≠48:=λe=>Jr (by apply UInt8.toNat_inj.1;simpa using e);have e1:kx 0 (c::s)=kx ((c.toNat:Int)-48) s:=by
        show kx (min (10*0+((c.toNat:Int)-48)) 1000001) s=_;congr 1;omega
       have hlen:=M9 s ((c.toNat:Int)-48) h1.2 d6 d6;rcases ik s.length 7 with hl|hl
       . simp;omega
       . exfalso;have h7:(10:Int) ^ 7<=10 ^ s.length:=by
          have:=Nat.pow_le_pow_right (n:=10) d6 hl
          exact_mod_cast this
         have:(10:Int) ^ s.length*1<=10 ^ s.length*((c.toNat:Int)-48):=Int.mul_le_mul_of_nonneg_left d6 d6;omega
def Ge(h:hY s=(0,2,s))(h0:s≠[]):mO s=0:=by
 unfold hY at h;simp only at h;split at h
 . split at h<;>simp at h
 . rename_i c r hw;split at h
   . simp only[jK,true_and]at h;rw[h.2]at h;exact h.1
   . split at h
     . simp at h
     . split at h
       . simp at h
       . split at h<;>simp at h
def Iz{t:Tk}(h:o4 t)(hk:t.k=2):mO t.s=0:=Ge (by rw[h.2,hk]) h.1
def EP:∀(s:aT)(a:Nat),s.all fE->∃m,Lib.decFrom a s=some m/\(m:Int)=oh a s
 | [],a,_=>⟨a,rfl,rfl⟩
 | c::s,a,h=>by
   simp only[List.all_cons,cS]at h;have hc:=lA.1 h.1;obtain⟨m,h1,h2⟩:=EP s (a*10+(c.toNat-48)) h.2;refine⟨m,?_,?_⟩
   . simp only[Lib.decFrom,Lib.digitVal,if_pos hc];exact h1
   . rw[h2];show oh _ s=oh (10*(a:Int)+((c.toNat:Int)-48)) s;congr 1;omega
def aak(h0:s≠[])(h:s.all fE):Lib.atoi s=some (xN s):=by
 cases s with
 | nil=>exact absurd rfl h0
 | cons c s =>
   have h':=h;simp only[List.all_cons,cS]at h';have hc:=lA.1 h'.1;obtain⟨m,h1,h2⟩:=EP (c::s) 0 h;have c45:(c==45)=false:=by simp;rintro rfl;simp at hc
   have c43:(c==43)=false:=by simp;rintro rfl;simp at hc
   simp only[Lib.atoi,c45,c43,bW,if_false,Lib.decNat,List.isEmpty_cons,h1,Option.map_some,kP];exact h2
def rz{t:aT}(h:hY s=(0,k,t)):(k=1/\t∉j0/\t.length<=12/\(∃c r,t=c::r/\lY c)/\t.all dp)\/(k=2/\∃c r,t=c::r/\fE c)\/(k=3/\t∈j0)\/(k=4/\t∈fF):=by
 have cg:(s.takeWhile dp).all dp:=by
  rw[fQ];intro x hx;have:∀l:aT,x∈l.takeWhile dp->dp x:=λl=>by
   induction l with
   | nil=>simp
   | cons c l ih =>
     simp only[om];split
     . rename_i hc;intro h;rcases dy.1 h with rfl|h
       . exact hc
       . exact ih h
     . simp
  exact this s hx
 unfold hY at h;simp only at h;split at h
 . split at h
   . rename_i x hx;simp only[jK,true_and]at h;obtain⟨rfl,rfl⟩:=h;exact .inr (.inr (.inr ⟨rfl,List.mem_of_find?_eq_some hx⟩))
   . simp at h
 . rename_i c r hw;split at h
   . rename_i hd;simp only[jK]at h;obtain⟨h1,rfl,rfl⟩:=h;exact .inr (.inl ⟨rfl,c,r,hw,hd⟩)
   . split at h
     . simp at h
     . rename_i hs;split at h
       . rename_i hk;simp only[jK,true_and]at h;obtain⟨rfl,rfl⟩:=h;exact .inr (.inr (.inl ⟨rfl,hk⟩))
       . rename_i hk;split at h
         . simp at h
         . rename_i hl;simp only[jK,true_and]at h;obtain⟨rfl,rfl⟩:=h;exact .inl ⟨rfl,hk,d6,⟨c,r,hw,by simpa using hs⟩,cg⟩
def o4.cases{t:Tk}(h:o4 t):(t.k=1/\t.s∉j0)\/t.k=2\/(t.k=3/\t.s∈j0)\/(t.k=4/\t.s∈fF):=by
 rcases rz h.2 with h|h|h|h
 . exact .inl ⟨h.1,h.2.1⟩
 . exact .inr (.inl h.1)
 . exact .inr (.inr (.inl h))
 . exact .inr (.inr (.inr h))
def RT:∀w∈j0,w∉fF:=by decide
def yW{L:List Tk}{i:Nat}(h:bP L i w):∃t,L[i]?=some t/\(t.k=3\/t.k=4)/\t.s=w:=by
 unfold bP at h;split at h
 . rename_i t ht;simp only[cS,ml,beq_iff_eq]at h;exact⟨t,ht,h.1,h.2⟩
 . cases h
def P6{L:List Tk}{i:Nat}{t:Tk}(ht:L[i]?=some t)(hk:t.k=3\/t.k=4)(hs:t.s=w):bP L i w:=by
 unfold bP;rw[ht];simp[hs,hk]
def aeI{L:List Tk}(hL:∀t∈L,o4 t){i:Nat}(hw:w∈j0)(h:bP L i w):∃t,L[i]?=some t/\t.k=3/\t.s=w:=by
 obtain⟨t,ht,hk,hs⟩:=yW h;refine⟨t,ht,?_,hs⟩;rcases hk with hk|hk
 . exact hk
 . rcases (hL t (fT ht)).cases with h|h|h|h
   . omega
   . omega
   . omega
   . rw[hs]at h;exact absurd h.2 (RT w hw)
def vg(o:Option Tk):aT:=match o with|some t=>if t.k=3\/t.k=4 then t.s else []|none=>[]
def JM{L:List Tk}{i:Nat}(hw:w≠[]):bP L i w=decide (vg L[i]?=w):=by
 unfold bP vg;split
 . rename_i t ht
   by_cases h:t.k=3\/t.k=4
   . by_cases hs:t.s=w<;>simp[ht,h,hs]
   . have h3:¬ t.k=3:=λe=>h (.inl e);have h4:¬ t.k=4:=λe=>h (.inr e);simp[ht,h3,h4,Ne.symm hw]
 . rename_i ht;simp[ht,Ne.symm hw]
variable {j:Nat}
def PR.ay{α β:Type}{x:PR α}{f:α->Nat->PR β}{b:β}(h:x.bind f=.ok b j):∃a i,x=.ok a i/\f a i=.ok b j:=by
 cases x with
 | ok a i=>exact⟨a,i,rfl,h⟩
 | bad i=>cases h
 | out=>cases h
def PR.cr{α:Type}{a b:α}{i:Nat}(h:PR.ok a i=PR.ok b j):a=b/\i=j:=by cases h;exact⟨rfl,rfl⟩
def dZ{L:List Tk}{i:Nat}{u:Unit}(h:bR L w i=.ok u j):j=i+1:=by
 unfold bR at h;split at h<;>cases h;rfl
def mN{L:List Tk}{i:Nat}{u:aT}(h:fO L i=.ok u j):j=i+1:=by
 unfold fO at h;split at h
 . split at h<;>cases h;rfl
 . cases h
def rj{L:List Tk}{i:Nat}{u:Int}(h:js L i=.ok u j):j=i+1:=by
 unfold js at h;split at h
 . split at h<;>cases h;rfl
 . cases h
def cR(k:Int)(t:aT)(n m a:Int)(l:List Nd):(node k t n m a l).length=l.length+1:=rfl
variable {ns:List Nd}
section
variable {L:List Tk}{E:Nat}
def vW{i:Nat}(h:jh L E i=.ok ns j):ns.length+i<=j:=by
 unfold jh at h;split at h
 . obtain⟨rfl,rfl⟩:=PR.cr h;simp[cR];omega
 . split at h
   . obtain⟨rfl,rfl⟩:=PR.cr h;simp[cR];omega
   . split at h
     . obtain⟨_,_,h1,h⟩:=PR.ay h;have:=rj h1;obtain⟨rfl,rfl⟩:=PR.cr h;simp[cR];omega
     . obtain⟨_,_,h1,h⟩:=PR.ay h;obtain⟨_,_,h2,h⟩:=PR.ay h;have:=dZ h1;have:=rj h2;obtain⟨rfl,rfl⟩:=PR.cr h;simp[cR];omega
def CO{i:Nat}(h:mY L E i=.ok ns j):ns.length+i<=j:=by
 unfold mY at h;obtain⟨_,_,h1,h⟩:=PR.ay h;have:=mN h1;obtain⟨rfl,rfl⟩:=PR.cr h;simp[cR];omega
def J0(h1:∀{i j ns},one i=.ok ns j->ns.length+i<=j):∀(f:Nat)(acc:List Nd)(i:Nat){j:Nat}{ns:List Nd},mG L one f acc i=.ok ns j->ns.length+i<=j+acc.length
 | 0,_,_,_,_,h=>by cases h
 | f+1,acc,i,j,ns,h=>by
   unfold mG at h;split at h
   . obtain⟨_,_,h2,h⟩:=PR.ay h;have:=h1 h2;have:=J0 h1 f _ _ h;simp at this;omega
   . obtain⟨rfl,rfl⟩:=PR.cr h;omega
def Dr(h1:∀{i j ns},one i=.ok ns j->ns.length+i<=j){i j:Nat}{ns:List Nd}(h:mF L one f i=.ok ns j):ns.length+i<=j:=by
 unfold mF at h;obtain⟨_,_,h2,h⟩:=PR.ay h;have:=h1 h2;have:=J0 h1 f _ _ h;omega
def Dm{i:Nat}(h:oX L E f i=.ok ns j):ns.length+i<=j:=by
 unfold oX at h;split at h
 . obtain⟨_,_,h1,h⟩:=PR.ay h;obtain⟨_,_,h2,h⟩:=PR.ay h;obtain⟨_,_,h3,h⟩:=PR.ay h;obtain⟨_,_,h4,h⟩:=PR.ay h;have:=Dr (λh=>vW h) h1;have:=dZ h2;have:=dZ h3;have:=vW h4;obtain⟨rfl,rfl⟩:=PR.cr h;simp[cR];omega
 . exact vW h
def Ho{i:Nat}(h:jM L E f i=.ok ns j):ns.length+i<=j:=by
 unfold jM at h;obtain⟨_,_,h1,h⟩:=PR.ay h;obtain⟨_,_,h2,h⟩:=PR.ay h;obtain⟨_,_,h3,h⟩:=PR.ay h;have:=mN h1;have:=dZ h2;have:=Dm h3;obtain⟨rfl,rfl⟩:=PR.cr h;simp[cR];omega
def uW:∀f:Nat,
 (∀{i j ns},iE L E f i=.ok ns j->ns.length+i<=j) /\
 (∀{i at_ acc many j ns},mr L E f at_ acc many i=.ok ns j->ns.length+i<=j+acc.length+(if many=1 then 0 else 1)) /\
 (∀{i j ns},cM L E f i=.ok ns j->ns.length+i<=j) /\
 (∀{i lev j ns},fZ L E f lev i=.ok ns j->ns.length+i<=j) /\
 (∀{i lev left j ns},ky L E f lev left i=.ok ns j->ns.length+i<=j+left.length) /\
 (∀{i j ns},lX L E f i=.ok ns j->ns.length+i<=j) /\
 (∀{i acc j ns},ki L E f acc i=.ok ns j->ns.length+i<=j+acc.length) /\
 (∀{i j ns},jX L E f i=.ok ns j->ns.length+i<=j):=by
 intro f
 induction f with
 | zero=>refine⟨?_,?_,?_,?_,?_,?_,?_,?_⟩<;>(intros;rename_i h;first|(rw[iE]at h;cases h;done)|(rw[mr]at h;cases h;done)|(rw[cM]at h;cases h;done)|(rw[fZ]at h;cases h;done)|(rw[ky]at h;cases h;done)|(rw[lX]at h;cases h;done)|(rw[ki]at h;cases h;done)|(rw[jX]at h;cases h;done))
 | succ f ih =>
   obtain⟨iT,iS,iF,iO,iP,iA,iG,iR⟩:=ih;refine⟨?_,?_,?_,?_,?_,?_,?_,?_⟩
   . intro i j ns h;rw[iE]at h;obtain⟨_,_,h1,h⟩:=PR.ay h;have:=iF h1;have:=iS h;simp at this;omega
   . intro i at_ acc many j ns h;rw[mr]at h;split at h
     . obtain⟨_,_,h1,h⟩:=PR.ay h;have:=iF h1;have:=iS h;simp only[dx]at this;split at this<;>split<;>omega
     . obtain⟨rfl,rfl⟩:=PR.cr h;split<;>simp[cR]<;>omega
   . intro i j ns h;rw[cM]at h;split at h
     . obtain⟨_,_,h1,h⟩:=PR.ay h;obtain⟨_,_,h2,h⟩:=PR.ay h;obtain⟨_,_,h3,h⟩:=PR.ay h;obtain⟨_,_,h4,h⟩:=PR.ay h;obtain⟨_,_,h5,h⟩:=PR.ay h;have:=iF h1;have:=dZ h2;have:=iF h3;have:=dZ h4;have:=iF h5;obtain⟨rfl,rfl⟩:=PR.cr h;simp[cR];omega
     split at h
     . obtain⟨_,_,h1,h⟩:=PR.ay h;obtain⟨_,_,h2,h⟩:=PR.ay h;obtain⟨_,_,h3,h⟩:=PR.ay h;have:=iF h1;have:=dZ h2;have:=iF h3;obtain⟨rfl,rfl⟩:=PR.cr h;simp[cR];omega
     split at h
     . obtain⟨_,_,h1,h⟩:=PR.ay h;obtain⟨_,_,h2,h⟩:=PR.ay h;obtain⟨_,_,h3,h⟩:=PR.ay h;obtain⟨_,_,h4,h⟩:=PR.ay h;obtain⟨_,_,h5,h⟩:=PR.ay h;obtain⟨_,_,h6,h⟩:=PR.ay h;obtain⟨_,_,h7,h⟩:=PR.ay h;have:=mN h1;have:=dZ h2;have:=rj h3;have:=dZ h4;have:=rj h5;have:=dZ h6;have:=iF h7;obtain⟨rfl,rfl⟩:=PR.cr h;simp[cR];omega
     split at h
     . obtain⟨_,_,h1,h⟩:=PR.ay h;obtain⟨_,_,h2,h⟩:=PR.ay h;obtain⟨_,_,h3,h⟩:=PR.ay h;obtain⟨_,_,h4,h⟩:=PR.ay h;obtain⟨_,_,h5,h⟩:=PR.ay h;have:=mN h1;have:=dZ h2;have:=iF h3;have:=dZ h4;have:=iF h5;obtain⟨rfl,rfl⟩:=PR.cr h;simp[cR];omega
     split at h
     . obtain⟨_,_,h1,h⟩:=PR.ay h;obtain⟨_,_,h2,h⟩:=PR.ay h;obtain⟨_,_,h3,h⟩:=PR.ay h;have:=iF h1;have:=dZ h2;have:=iF h3;obtain⟨rfl,rfl⟩:=PR.cr h;simp[cR];omega
     split at h
     . obtain⟨_,_,h1,h⟩:=PR.ay h;obtain⟨_,_,h2,h⟩:=PR.ay h;obtain⟨_,_,h3,h⟩:=PR.ay h;obtain⟨_,_,h4,h⟩:=PR.ay h;obtain⟨_,_,h5,h⟩:=PR.ay h;have:=mN h1;have:=dZ h2;have:=rj h3;have:=dZ h4;have:=iF h5;obtain⟨rfl,rfl⟩:=PR.cr h;simp[cR];omega
     split at h
     . obtain⟨_,_,h1,h⟩:=PR.ay h;obtain⟨_,_,h2,h⟩:=PR.ay h;obtain⟨_,_,h3,h⟩:=PR.ay h;have:=mN h1;have:=dZ h2;have:=iF h3;obtain⟨rfl,rfl⟩:=PR.cr h;simp[cR];omega
     . exact iO h
   . intro i lev j ns h;rw[fZ]at h;split at h
     . exact iA h
     split at h
     . split at h
       . obtain⟨_,_,h1,h⟩:=PR.ay h;have:=iO h1;obtain⟨rfl,rfl⟩:=PR.cr h;simp[cR];omega
       . exact iO h
     . obtain⟨_,_,h1,h⟩:=PR.ay h;have:=iO h1;have:=iP h;omega
   . intro i lev left j ns h;rw[ky]at h;split at h
     . obtain⟨rfl,rfl⟩:=PR.cr h;omega
     split at h
     . obtain⟨_,_,h1,h⟩:=PR.ay h;have:=rj h1;have:=iP h;simp[cR]at this;omega
     . obtain⟨_,_,h1,h⟩:=PR.ay h;have:=iO h1;split at h
       . obtain⟨rfl,rfl⟩:=PR.cr h;simp[cR];omega
       . have:=iP h;simp[cR]at this;omega
   . intro i j ns h;rw[lX]at h;split at h
     . obtain⟨rfl,rfl⟩:=PR.cr h;simp[cR];omega
     split at h
     . obtain⟨rfl,rfl⟩:=PR.cr h;simp[cR];omega
     split at h
     . obtain⟨rfl,rfl⟩:=PR.cr h;simp[cR];omega
     split at h
     . obtain⟨rfl,rfl⟩:=PR.cr h;simp[cR];omega
     split at h
     . obtain⟨_,_,h1,h⟩:=PR.ay h;have:=mN h1;obtain⟨rfl,rfl⟩:=PR.cr h;simp[cR];omega
     split at h
     . obtain⟨_,_,h1,h⟩:=PR.ay h;have:=mN h1;obtain⟨rfl,rfl⟩:=PR.cr h;simp[cR];omega
     split at h
     . obtain⟨_,_,h1,h⟩:=PR.ay h;obtain⟨_,_,h2,h⟩:=PR.ay h;have:=iT h1;have:=dZ h2;obtain⟨rfl,rfl⟩:=PR.cr h;omega
     split at h
     . obtain⟨_,_,h1,h⟩:=PR.ay h;have:=rj h1;obtain⟨rfl,rfl⟩:=PR.cr h;simp[cR];omega
     . obtain⟨_,_,h1,h⟩:=PR.ay h;have:=mN h1;split at h
       . obtain⟨_,_,h2,h⟩:=PR.ay h;obtain⟨_,_,h3,h⟩:=PR.ay h;obtain⟨_,_,h4,h⟩:=PR.ay h;have:=iR h2;have:=iG h3;have:=dZ h4;obtain⟨rfl,rfl⟩:=PR.cr h;simp[cR];omega
       . obtain⟨rfl,rfl⟩:=PR.cr h;simp[cR];omega
   . intro i acc j ns h;rw[ki]at h;split at h
     . obtain⟨_,_,h1,h⟩:=PR.ay h;have:=iR h1;have:=iG h;simp at this;omega
     . obtain⟨rfl,rfl⟩:=PR.cr h;omega
   . intro i j ns h;rw[jX]at h;split at h
     . obtain⟨_,_,h1,h⟩:=PR.ay h;obtain⟨_,_,h2,h⟩:=PR.ay h;obtain⟨_,_,h3,h⟩:=PR.ay h;obtain⟨_,_,h4,h⟩:=PR.ay h;have:=dZ h1;have:=Dr (λh=>CO h) h2;have:=dZ h3;have:=iF h4;obtain⟨rfl,rfl⟩:=PR.cr h;simp[cR];omega
     split at h
     . obtain⟨_,_,h1,h⟩:=PR.ay h;obtain⟨_,_,h2,h⟩:=PR.ay h;obtain⟨_,_,h3,h⟩:=PR.ay h;obtain⟨_,_,h4,h⟩:=PR.ay h;obtain⟨_,_,h5,h⟩:=PR.ay h;obtain⟨_,_,h6,h⟩:=PR.ay h;obtain⟨_,_,h7,h⟩:=PR.ay h;obtain⟨_,_,h8,h⟩:=PR.ay h;have:=dZ h1;have:=iF h2;have:=dZ h3;have:=dZ h4;have:=CO h5;have:=dZ h6;have:=iF h7;have:=dZ h8;obtain⟨rfl,rfl⟩:=PR.cr h;simp[cR];omega
     . exact iT h
def JN{i:Nat}(h:lH L E f i=.ok ns j):ns.length+i<=j:=by
 unfold lH at h;split at h
 . obtain⟨_,_,h1,h⟩:=PR.ay h;obtain⟨_,_,h2,h⟩:=PR.ay h;obtain⟨_,_,h3,h⟩:=PR.ay h;obtain⟨_,_,h4,h⟩:=PR.ay h;have:=mN h1;have:=dZ h2;have:=Dm h3;have:=dZ h4;obtain⟨rfl,rfl⟩:=PR.cr h;simp[cR];omega
 . obtain⟨k,p,h0,h⟩:=PR.ay h;obtain⟨_,_,h1,h⟩:=PR.ay h;obtain⟨_,_,h2,h⟩:=PR.ay h;obtain⟨_,_,h3,h⟩:=PR.ay h;obtain⟨_,_,h4,h⟩:=PR.ay h;obtain⟨_,_,h5,h⟩:=PR.ay h;obtain⟨_,_,h6,h⟩:=PR.ay h;obtain⟨_,_,h7,h⟩:=PR.ay h;obtain⟨_,_,h8,h⟩:=PR.ay h;obtain⟨_,_,h9,h⟩:=PR.ay h;have hp:p=i+1:=by
    split at h0
    . exact (PR.cr h0).2.symm
    . obtain⟨_,_,g1,g2⟩:=PR.ay h0;have:=dZ g1;have:=(PR.cr g2).2;omega
   have h3':∀{a:List Nd}{j q:Nat},(if bP L j dE=true then (PR.ok [] j:PR (List Nd)) else mF L (jM L E f) f j)=.ok a q->a.length+j<=q:=λh=>by
    split at h
    . obtain⟨rfl,rfl⟩:=PR.cr h;simp
    . exact Dr (λh=>Ho h) h
   have:=mN h1;have:=dZ h2;have:=h3' h3;have:=dZ h4;have:=dZ h5;have:=vW h6;have:=dZ h7;have:=(uW f).1 h8;have:=dZ h9;obtain⟨rfl,rfl⟩:=PR.cr h;simp[cR];omega
end
section
variable {L:List Tk}{E E':Nat}
def rm{i:Nat}(h:i<L.length):cT L E i=cT L E' i:=by
 unfold cT;rw[mP h]
def oJ{i:Nat}(h:¬ i<L.length):bP L i w=false:=by
 unfold bP;rw[pn d6]
def MH{i:Nat}(h:¬ i<L.length):ij L i k=false:=by
 unfold ij;rw[pn d6]
def Du{i:Nat}(h:¬ i<L.length):fO L i=.bad i:=by
 unfold fO;rw[pn d6]
def J1{i:Nat}(h:¬ i<L.length):bR L w i=.bad i:=by
 simp[bR,oJ h]
def abq{i lev:Nat}(h:¬ i<L.length):mi L lev i=none:=by
 simp[mi,oJ h]
def Pg(i:Nat):jh L E i=jh L E' i:=by
 unfold jh
 by_cases h:i<L.length
 . simp only[rm (E:=E) (E':=E') h]
 . simp only[oJ h,J1 h,PR.bind,bW,if_false]
def aeq(i:Nat):mY L E i=mY L E' i:=by
 unfold mY
 by_cases h:i<L.length
 . simp only[rm (E:=E) (E':=E') h]
 . simp only[Du h,PR.bind]
def Qa(f i:Nat):oX L E f i=oX L E' f i:=by
 have e:jh L E=jh L E':=funext Pg;unfold oX;rw[e]
 by_cases h:i<L.length
 . simp only[rm (E:=E) (E':=E') h]
 . simp only[oJ h,bW,if_false]
def abx(f i:Nat):jM L E f i=jM L E' f i:=by
 unfold jM
 by_cases h:i<L.length
 . simp only[rm (E:=E) (E':=E') h,Qa (E:=E) (E':=E')]
 . simp only[Du h,PR.bind]
def agr:∀f:Nat,
 (∀i,iE L E f i=iE L E' f i) /\
 (∀i at_ acc many,mr L E f at_ acc many i=mr L E' f at_ acc many i) /\
 (∀i,cM L E f i=cM L E' f i) /\
 (∀i lev,fZ L E f lev i=fZ L E' f lev i) /\
 (∀i lev left,ky L E f lev left i=ky L E' f lev left i) /\
 (∀i,lX L E f i=lX L E' f i) /\
 (∀i acc,ki L E f acc i=ki L E' f acc i) /\
 (∀i,jX L E f i=jX L E' f i):=by
 intro f
 induction f with
 | zero=>refine⟨?_,?_,?_,?_,?_,?_,?_,?_⟩<;>intros<;>simp only[iE,mr,cM,fZ,ky,lX,ki,jX]
 | succ f ih =>
   obtain⟨iT,iS,iF,iO,iP,iA,iG,iR⟩:=ih;have eB:mY L E=mY L E':=funext aeq;refine⟨?_,?_,?_,?_,?_,?_,?_,?_⟩
   . intro i;rw[iE,iE];simp only[iF,iS];congr 1;funext a j
     by_cases h:j<L.length
     . rw[rm (E:=E) (E':=E') h]
     . cases f with
       | zero=>rw[mr,mr]
       | succ f=>rw[mr,mr];simp[oJ h]
   . intro i at_ acc many;rw[mr,mr];simp only[iF,iS]
   . intro i;rw[cM,cM];simp only[iF,iO]
     by_cases h:i<L.length
     . simp only[rm (E:=E) (E':=E') h]
     . simp only[oJ h,MH h,bW,if_false,false_and]
   . intro i lev;rw[fZ,fZ];simp only[iO,iP,iA]
     by_cases h:i<L.length
     . simp only[rm (E:=E) (E':=E') h]
     . simp only[oJ h,bW,if_false]
   . intro i lev left;rw[ky,ky]
     by_cases h:i<L.length
     . simp only[rm (E:=E) (E':=E') h,iO,iP]
     . rw[abq h]
   . intro i;rw[lX,lX];simp only[iT,iR,iG]
     by_cases h:i<L.length
     . simp only[rm (E:=E) (E':=E') h]
     . simp only[oJ h,MH h,Du h,PR.bind,bW,if_false]
   . intro i acc;rw[ki,ki];simp only[iR,iG]
   . intro i;rw[jX,jX,eB];simp only[iF,iT]
     by_cases h:i<L.length
     . simp only[rm (E:=E) (E':=E') h]
     . simp only[oJ h,bW,if_false]
def aeK(f i:Nat):lH L E f i=lH L E' f i:=by
 have e1:jM L E f=jM L E' f:=funext (abx f);unfold lH;rw[e1];simp only[Qa (E:=E) (E':=E'),Pg (E:=E) (E':=E'),(agr (E:=E) (E':=E') f).1]
 by_cases h:i<L.length
 . simp only[rm (E:=E) (E':=E') h]
 . simp only[oJ h,J1 h,PR.bind,bW,if_false]
end
end Go.Rip
