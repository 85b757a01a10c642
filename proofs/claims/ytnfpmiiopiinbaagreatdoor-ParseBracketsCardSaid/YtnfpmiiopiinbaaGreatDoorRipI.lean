/- Lemmas for the proof: no conditions. -/
import Derived.Test.YtnfpmiiopiinbaaGreatDoorRipZz
import Derived.Test.YtnfpmiiopiinbaaGreatDoorRipD
import Derived.Lib.Atoi
set_option linter.unusedVariables false
set_option linter.unusedSimpArgs false
set_option linter.loopingSimpArgs false
namespace Go.Rip
abbrev aG:=List UInt8
structure Tk where
 k:Nat
 s:aG
 at_:Nat
 deriving DecidableEq
structure Nd where
 kind:Int
 text:aG
 n:Int
 m:Int
 at_:Int
 size:Int
 deriving DecidableEq
def gK (c:UInt8):Bool:=decide (48<=c.toNat/\c.toNat<=57)
def mM (c:UInt8):Bool:=decide (97<=c.toNat/\c.toNat<=122)
def Jj (c:UInt8):Bool:=decide (65<=c.toNat/\c.toNat<=90)
def dj (c:UInt8):Bool:=gK c||mM c||Jj c
def lA (c:UInt8):Bool:=decide (c.toNat=10\/32<=c.toNat/\c.toNat<=126)
def Lp (s:aG):Int:=s.foldl (λ n c=>min (10*n+((c.toNat:Int)-48)) 1000001) 0
def tn (s:aG):Int:=s.foldl (λ n c=>10*n+((c.toNat:Int)-48)) 0
def pI (s:aG):Int:=if s.all gK=false then 4 else if 1<s.length/\s.head?=some 48 then 4 else if 1000000<Lp s then 3 else 0
def lW:List aG:=[zM,uI,lP,ky,ia,pX,gg,sY,fe,dQ,dR,rO,va,ik,pg,dY,kr,gY,kz,jb,lY,qD,iU,aka,Ea,vb,fU,oL,dN,gH]
def jt:List aG:=[bQ,fY,gP,ud,ub,sX,u9,mT,bK,bJ,gQ,jJ,cH,cC,dk,uc]
def iK (s:aG):Int×Nat×aG :=
 let w:=s.takeWhile dj
 match w with
 | []=>match jt.find? λ x=>x.isPrefixOf s with
   | some x=>(0,4,x)
   | none=>(4,0,[])
 | c::_=>if gK c then (pI w,2,w) else if mM c=false then (4,0,[]) else if w∈lW then (0,3,w) else if 12<w.length then (4,0,[]) else (0,1,w)
inductive yJ where
 | ok (l:List Tk)
 | bad (p:Nat) (e:Int)
def eR:Nat->aG->Nat->List Tk->yJ
 | 0,_,_,l=>.ok l
 | f+1,s,p,l=>match s.drop p with
   | []=>.ok l
   | c::r=>if c.toNat=32\/c.toNat=10 then eR f s (p+1) l
     else if c.toNat=126 then eR f s (p+((c::r).takeWhile λ c=>c.toNat≠10).length) l
     else match iK (c::r) with
      | (e,k,t)=>if e≠0 then .bad p e else if l.length=900 then .bad p 5 else eR f s (p+t.length) (l++[⟨k,t,p⟩])
def rD (s:aG):Nat×Int:=if 2500<s.length then (0,5) else match s.findIdx? (λ c=>!lA c) with|some i=>(i,2)|none=>(0,0)
def ix (s:aG):yJ:=match rD s with
 | (p,e)=>if e≠0 then .bad p e else eR s.length s 0 []
inductive PR (α:Type) where
 | ok (a:α) (i:Nat)
 | bad (i:Nat)
 | out
def PR.bind {α β:Type} (x:PR α) (f:α->Nat->PR β):PR β:=match x with
 | .ok a i=>f a i
 | .bad i=>.bad i
 | .out=>.out
def node (kind:Int) (text:aG) (n m at_:Int) (kids:List Nd):List Nd:=⟨kind,text,n,m,at_,(kids.length:Int)+1⟩::kids
section
variable (L:List Tk) (E:Nat)
def dv (i:Nat):Int:=match L[i]? with|some t=>t.at_|none=>E
def bm (i:Nat) (w:aG):Bool:=match L[i]? with|some t=>(t.k==3||t.k==4)&&t.s==w|none=>false
def rF (i:Nat) (k:Nat):Bool:=match L[i]? with|some t=>t.k==k|none=>false
def uF (i:Nat):Bool:=bm L i dY||bm L i gg||bm L i dQ
def bM (w:aG) (i:Nat):PR Unit:=if bm L i w=true then .ok () (i+1) else .bad i
def gX (i:Nat):PR aG:=match L[i]? with|some t=>if t.k=1 then .ok t.s (i+1) else .bad i|none=>.bad i
def jo (i:Nat):PR Int:=match L[i]? with|some t=>if t.k=2 then .ok (tn t.s) (i+1) else .bad i|none=>.bad i
def mO (one:Nat->PR (List Nd)):Nat->List Nd->Nat->PR (List Nd)
 | 0,_,_=>.out
 | f+1,acc,i=>if bm L i cH=true then (one (i+1)).bind λ b j=>mO one f (acc++b) j else .ok acc i
def jW (one:Nat->PR (List Nd)) (f:Nat) (i:Nat):PR (List Nd):=(one i).bind λ a j=>mO L one f a j
def gn (i:Nat):PR (List Nd) :=
 if bm L i pX=true then .ok (node 6 [] 1 0 (dv L E i) []) (i+1)
 else if bm L i lP=true then .ok (node 6 [] 2 0 (dv L E i) []) (i+1)
 else if bm L i ky=true then (jo L (i+1)).bind λ n j=>.ok (node 7 [] n 0 (dv L E i) []) j
 else (bM L gY i).bind λ _ j=>(jo L j).bind λ n j=>.ok (node 6 [] n 0 (dv L E i) []) j
def jI (f:Nat) (i:Nat):PR (List Nd) :=
 if bm L i bK=true then (jW L (gn L E) f (i+1)).bind λ a j=>(bM L bJ j).bind λ _ j=>(bM L fY j).bind λ _ j=>(gn L E j).bind λ b j=>.ok (node 8 [] 0 0 (dv L E i) (a++b)) j
 else gn L E i
def j0 (f:Nat) (i:Nat):PR (List Nd):=(gX L i).bind λ x j=>(bM L dk j).bind λ _ j=>(jI L E f j).bind λ a j=>.ok (node 5 x 0 0 (dv L E i) a) j
def lS (i:Nat):PR (List Nd):=(gX L i).bind λ x j=>.ok (node 37 x 0 0 (dv L E i) []) j
def ox (lev:Nat) (i:Nat):Option Int :=
 if lev=2 then if bm L i Ea=true then some 17 else none
 else if lev=3 then if bm L i zM=true then some 18 else none
 else if lev=5 then if bm L i gP=true then some 20 else if bm L i ud=true then some 21 else none
 else if lev=6 then if bm L i ub=true then some 22 else if bm L i sX=true then some 23 else none
 else if lev=7 then if bm L i u9=true then some 24 else none
 else if lev=8 then if bm L i uI=true then some 25 else none
 else none
mutual
def ig:Nat->Nat->PR (List Nd)
 | 0,_=>.out
 | f+1,i=>(bF f i).bind λ a j=>nN f (dv L E j) a 1 j
def nN:Nat->Int->List Nd->Nat->Nat->PR (List Nd)
 | 0,_,_,_,_=>.out
 | f+1,at_,acc,many,i=>if bm L i cC=true/\i+1<L.length/\uF L (i+1)=false then (bF f (i+1)).bind λ b j=>nN f at_ (acc++b) (many+1) j
   else .ok (if many=1 then acc else node 9 [] 0 0 at_ acc) i
def bF:Nat->Nat->PR (List Nd)
 | 0,_=>.out
 | f+1,i =>
   if bm L i pg=true then (bF f (i+1)).bind λ c j=>(bM L oL j).bind λ _ j=>(bF f j).bind λ a j=>(bM L fe j).bind λ _ j=>(bF f j).bind λ b j=>.ok (node 10 [] 0 0 (dv L E i) (c++a++b)) j
   else if bm L i gH=true then (bF f (i+1)).bind λ a j=>(bM L sY j).bind λ _ j=>(bF f j).bind λ b j=>.ok (node 11 [] 0 0 (dv L E i) (a++b)) j
   else if bm L i lY=true then (gX L (i+1)).bind λ x j=>(bM L dk j).bind λ _ j=>(jo L j).bind λ n j=>(bM L bQ j).bind λ _ j=>(jo L j).bind λ m j=>(bM L kr j).bind λ _ j=>(bF f j).bind λ a j=>.ok (node 12 x n m (dv L E i) a) j
   else if bm L i jb=true then (gX L (i+1)).bind λ x j=>(bM L kr j).bind λ _ j=>(bF f j).bind λ a j=>(bM L fe j).bind λ _ j=>(bF f j).bind λ b j=>.ok (node 13 x 0 0 (dv L E i) (a++b)) j
   else if bm L i ia=true then (bF f (i+1)).bind λ a j=>(bM L fe j).bind λ _ j=>(bF f j).bind λ b j=>.ok (node 15 [] 0 0 (dv L E i) (a++b)) j
   else if bm L i iU=true then (gX L (i+1)).bind λ x j=>(bM L bQ j).bind λ _ j=>(jo L j).bind λ n j=>(bM L kr j).bind λ _ j=>(bF f j).bind λ a j=>.ok (node 14 x n 0 (dv L E i) a) j
   else if rF L i 1=true/\bm L (i+1) bQ=true then (gX L i).bind λ x j=>(bM L bQ j).bind λ _ j=>(bF f j).bind λ a j=>.ok (node 16 x 0 0 (dv L E i) a) j
   else eC f 2 i
def eC:Nat->Nat->Nat->PR (List Nd)
 | 0,_,_=>.out
 | f+1,lev,i =>
   if lev=9 then gI f i
   else if lev=4 then if bm L i qD=true then (eC f 4 (i+1)).bind λ a j=>.ok (node 19 [] 0 0 (dv L E i) a) j else eC f 5 i
   else (eC f (lev+1) i).bind λ a j=>lK f lev a j
def lK:Nat->Nat->List Nd->Nat->PR (List Nd)
 | 0,_,_,_=>.out
 | f+1,lev,left,i=>match ox L lev i with
   | none=>.ok left i
   | some kind=>if lev=8 then (jo L (i+1)).bind λ n j=>lK f lev (node kind [] n 0 (dv L E i) left) j
     else (eC f (lev+1) (i+1)).bind λ b j=>if lev=5 then .ok (node kind [] 0 0 (dv L E i) (left++b)) j else lK f lev (node kind [] 0 0 (dv L E i) (left++b)) j
def gI:Nat->Nat->PR (List Nd)
 | 0,_=>.out
 | f+1,i =>
   if bm L i dN=true then .ok (node 27 [] 0 0 (dv L E i) []) (i+1)
   else if bm L i dR=true then .ok (node 28 [] 0 0 (dv L E i) []) (i+1)
   else if bm L i fU=true then .ok (node 29 [] 0 0 (dv L E i) []) (i+1)
   else if bm L i ik=true then .ok (node 30 [] 0 0 (dv L E i) []) (i+1)
   else if bm L i kz=true then (gX L (i+1)).bind λ x j=>.ok (node 31 x 0 0 (dv L E i) []) j
   else if bm L i mT=true then (gX L (i+1)).bind λ x j=>.ok (node 32 x 0 0 (dv L E i) []) j
   else if bm L i bK=true then (ig f (i+1)).bind λ a j=>(bM L bJ j).bind λ _ j=>.ok a j
   else if rF L i 2=true then (jo L i).bind λ n j=>.ok (node 26 [] n 0 (dv L E i) []) j
   else (gX L i).bind λ x j=>if bm L j bK=true then (js f (j+1)).bind λ a j=>(kO f a j).bind λ a j=>(bM L bJ j).bind λ _ j=>.ok (node 34 x 0 0 (dv L E i) a) j
    else .ok (node 33 x 0 0 (dv L E i) []) j
def kO:Nat->List Nd->Nat->PR (List Nd)
 | 0,_,_=>.out
 | f+1,acc,i=>if bm L i cH=true then (js f (i+1)).bind λ b j=>kO f (acc++b) j else .ok acc i
def js:Nat->Nat->PR (List Nd)
 | 0,_=>.out
 | f+1,i =>
   if bm L i rO=true then (bM L bK (i+1)).bind λ _ j=>(jW L (lS L E) (L.length+1) j).bind λ a j=>(bM L bJ j).bind λ _ j=>(bF f j).bind λ b j=>.ok (node 35 [] 0 0 (dv L E i) (a++b)) j
   else if bm L i gQ=true then (bM L va (i+1)).bind λ _ j=>(bF f j).bind λ a j=>(bM L cC j).bind λ _ j=>(bM L vb j).bind λ _ j=>(lS L E j).bind λ b j=>(bM L uc j).bind λ _ j=>(bF f j).bind λ c j=>(bM L jJ j).bind λ _ j=>.ok (node 36 [] 0 0 (dv L E i) (a++b++c)) j
   else ig f i
end
def mN (f:Nat) (i:Nat):PR (List Nd) :=
 if bm L i dY=true then (gX L (i+1)).bind λ x j=>(bM L dk j).bind λ _ j=>(jI L E f j).bind λ a j=>(bM L cC j).bind λ _ j=>.ok (node 2 x 0 0 (dv L E i) a) j
 else (if bm L i gg=true then .ok 3 (i+1) else (bM L dQ i).bind λ _ j=>.ok 4 j:PR Int).bind λ k j =>
  (gX L j).bind λ x j=>(bM L bK j).bind λ _ j =>
  (if bm L j bJ=true then .ok [] j else jW L (j0 L E f) f j).bind λ a j =>
  (bM L bJ j).bind λ _ j=>(bM L dk j).bind λ _ j=>(gn L E j).bind λ b j=>(bM L gP j).bind λ _ j=>(ig L E f j).bind λ c j =>
  (bM L cC j).bind λ _ j=>.ok (node k x 0 0 (dv L E i) (a++b++c)) j
def fuel:Nat:=40*(L.length+2)
def ku:Nat->List Nd->Nat->PR (List Nd)
 | 0,_,_=>.out
 | f+1,acc,i=>if i<L.length then (mN L E (fuel L) i).bind λ a j=>ku f (acc++a) j else .ok acc i
end
end Go.Rip
namespace Go.Rip
def Gd {α:Type} (n lo lb:Nat):PR α->Prop
 | .ok _ j=>lo<=j/\j<=n
 | .bad j=>lb<=j/\j<=n
 | .out=>False
section
variable {α β:Type} {n lo HZ lb i:Nat} {L:List Tk} {E:Nat}
theorem Gd.bind {x:PR α} {f:α->Nat->PR β} (h:Gd n lo lb x) (k:∀ a j,lo<=j->j<=n->Gd n HZ lb (f a j)):Gd n HZ lb (x.bind f):=by
 cases x with
 | ok a j=>exact k a j h.1 h.2
 | bad j=>exact h
 | out=>exact h.elim
theorem Gd.ite {c:Prop} [Decidable c] {x y:PR α} (h:c->Gd n lo lb x) (k:¬ c->Gd n lo lb y):Gd n lo lb (if c then x else y):=by
 split
 . exact h ‹_›
 . exact k ‹_›
theorem Gd.low {x:PR α} (h:Gd n lo lb x) (k:HZ<=lo):Gd n HZ lb x:=by
 cases x with
 | ok a j=>exact⟨Nat.le_trans k h.1,h.2⟩
 | bad j=>exact h
 | out=>exact h
theorem Gd.vL {lb':Nat} {x:PR α} (h:Gd n lo lb x) (k:lb'<=lb):Gd n lo lb' x:=by
 cases x with
 | ok a j=>exact h
 | bad j=>exact⟨Nat.le_trans k h.1,h.2⟩
 | out=>exact h
theorem Gd.at' {lb':Nat} {x:PR α} (h:Gd n lo lb x) (k:HZ<=lo) (k':lb'<=lb):Gd n HZ lb' x:=(h.low k).vL k'
theorem dI {w:aG} (h:bm L i w=true):i<L.length:=by
 unfold bm at h;split at h
 . rename_i t ht; exact (dp.1 ht).1
 . cases h
theorem abp {k:Nat} (h:rF L i k=true):i<L.length:=by
 unfold rF at h;split at h
 . rename_i t ht; exact (dp.1 ht).1
 . cases h
theorem dy {w:aG} (h:i<=L.length):Gd L.length (i+1) i (bM L w i):=by
 unfold bM;exact .ite (λ c=>⟨bX _,dI c⟩) λ _=>⟨bX _,h⟩
theorem mF (h:i<=L.length):Gd L.length (i+1) i (gX L i):=by
 unfold gX;split
 . rename_i t ht;have:=(dp.1 ht).1;exact .ite (λ c=>⟨bX _,this⟩) λ _=>⟨bX _,h⟩
 . exact⟨bX _,h⟩
theorem rI (h:i<=L.length):Gd L.length (i+1) i (jo L i):=by
 unfold jo;split
 . rename_i t ht;have:=(dp.1 ht).1;exact .ite (λ c=>⟨bX _,this⟩) λ _=>⟨bX _,h⟩
 . exact⟨bX _,h⟩
theorem Lh {one:Nat->PR (List Nd)} (h1:∀ i,i<=L.length->Gd L.length (i+1) i (one i)):∀ (f:Nat) (acc:List Nd) (i:Nat),i<=L.length->L.length-i<f->Gd L.length i i (mO L one f acc i)
 | 0,acc,i,hi,hf=>by omega
 | f+1,acc,i,hi,hf=>by
   unfold mO;refine .ite (λ c=>?_) λ _=>⟨bX _,hi⟩;have:=dI c;refine ((h1 (i+1) this).vL (lb':=i) (by omega)).bind λ b j h2 h3=>?_;exact (Lh h1 f _ j h3 (by omega)).at' (by omega) (by omega)
theorem DG {one:Nat->PR (List Nd)} (h1:∀ i,i<=L.length->Gd L.length (i+1) i (one i)) {f:Nat} (hi:i<=L.length) (hf:L.length-i<=f) (h0:0<f):Gd L.length (i+1) i (jW L one f i):=by
 unfold jW;refine (h1 i hi).bind λ a j h2 h3=>?_;exact (Lh h1 f _ j h3 (by omega)).at' (by omega) (by omega)
theorem rC (h:i<=L.length):Gd L.length (i+1) i (gn L E i):=by
 unfold gn;refine .ite (λ c=>⟨bX _,dI c⟩) λ _=>.ite (λ c=>⟨bX _,dI c⟩) λ _=>.ite (λ c=>?_) λ _=>?_
 . have:=dI c;exact ((rI this).vL (lb':=i) (by omega)).bind λ a j h2 h3=>⟨by omega,h3⟩
 . refine (dy h).bind λ a j h2 h3=>?_;exact ((rI h3).vL (lb':=i) (by omega)).bind λ a j h2 h3=>⟨by omega,h3⟩
theorem zd {f:Nat} (h:i<=L.length) (hf:L.length<f):Gd L.length (i+1) i (jI L E f i):=by
 unfold jI;refine .ite (λ c=>?_) λ _=>rC h;have:=dI c;refine ((DG (λ i hi=>rC hi) this (by omega) (by omega)).vL (lb':=i) (by omega)).bind λ a j h2 h3=>?_;refine ((dy h3).vL (lb':=i) (by omega)).bind λ a j h4 h5=>?_;refine ((dy h5).vL (lb':=i) (by omega)).bind λ a j h6 h7=>?_;exact ((rC h7).vL (lb':=i) (by omega)).bind λ a j h8 h9=>⟨by omega,h9⟩
theorem Il {f:Nat} (h:i<=L.length) (hf:L.length<f):Gd L.length (i+1) i (j0 L E f i):=by
 unfold j0;refine (mF h).bind λ a j h2 h3=>?_;refine ((dy h3).vL (lb':=i) (by omega)).bind λ a j h4 h5=>?_;exact ((zd h5 hf).vL (lb':=i) (by omega)).bind λ a j h8 h9=>⟨by omega,h9⟩
theorem yN (h:i<=L.length):Gd L.length (i+1) i (lS L E i):=by
 unfold lS;exact (mF h).bind λ a j h2 h3=>⟨h2,h3⟩
theorem Gd.step {lo1 lb1:Nat} {x:PR α} {f:α->Nat->PR β} (h:Gd n lo1 lb1 x) (hb:lb<=lb1) (k:∀ a j,lo1<=j->j<=n->Gd n HZ lb (f a j)):Gd n HZ lb (x.bind f):=(h.vL hb).bind k
theorem OL {lev:Nat} {k:Int} (h:ox L lev i=some k):i<L.length:=by
 unfold ox at h
 repeat' (split at h)
 all_goals first
  | (cases h; done)
  | exact dI ‹_›
theorem AN:∀ f:Nat,
 (∀ i,i<=L.length->40*(L.length-i)+11<=f->Gd L.length (i+1) i (ig L E f i)) /\
 (∀ i at_ acc many,i<=L.length->40*(L.length-i)+1<=f->Gd L.length i i (nN L E f at_ acc many i)) /\
 (∀ i,i<=L.length->40*(L.length-i)+10<=f->Gd L.length (i+1) i (bF L E f i)) /\
 (∀ i lev,i<=L.length->lev<=9->40*(L.length-i)+(11-lev)<=f->Gd L.length (i+1) i (eC L E f lev i)) /\
 (∀ i lev left,i<=L.length->lev<=8->40*(L.length-i)+1<=f->Gd L.length i i (lK L E f lev left i)) /\
 (∀ i,i<=L.length->40*(L.length-i)+1<=f->Gd L.length (i+1) i (gI L E f i)) /\
 (∀ i acc,i<=L.length->40*(L.length-i)+1<=f->Gd L.length i i (kO L E f acc i)) /\
 (∀ i,i<=L.length->40*(L.length-i)+12<=f->Gd L.length (i+1) i (js L E f i)):=by
 intro f
 induction f with
 | zero=>refine⟨?_,?_,?_,?_,?_,?_,?_,?_⟩<;>intros<;>omega
 | succ f ih =>
   obtain⟨iT,iS,iF,iO,iP,iA,iG,iR⟩:=ih;refine⟨?_,?_,?_,?_,?_,?_,?_,?_⟩
   . intro i hi hf;rw[ig];refine (iF i hi (by omega)).bind λ a j h1 h2=>?_;exact (iS j _ _ _ h2 (by omega)).at' (by omega) (by omega)
   . intro i at_ acc many hi hf;rw[nN];refine .ite (λ c=>?_) λ _=>⟨bX _,hi⟩;have h0:=dI c.1;refine (iF (i+1) (by omega) (by omega)).step (by omega) λ a j h1 h2=>?_;exact (iS j _ _ _ h2 (by omega)).at' (by omega) (by omega)
   . intro i hi hf;rw[bF];refine .ite (λ c=>?_) λ _=>.ite (λ c=>?_) λ _=>.ite (λ c=>?_) λ _=>.ite (λ c=>?_) λ _=>.ite (λ c=>?_) λ _=>.ite (λ c=>?_) λ _=>.ite (λ c=>?_) λ _=>?_
     . have h0:=dI c;refine (iF (i+1) (by omega) (by omega)).step (by omega) λ a j h1 h2=>(dy h2).step (by omega) λ a j h3 h4=>(iF j (by omega) (by omega)).step (by omega) λ a j h5 h6=>(dy h6).step (by omega) λ a j h7 h8=>(iF j (by omega) (by omega)).step (by omega) λ a j h9 pM=>⟨by omega,pM⟩
     . have h0:=dI c;exact (iF (i+1) (by omega) (by omega)).step (by omega) λ a j h1 h2=>(dy h2).step (by omega) λ a j h3 h4=>(iF j (by omega) (by omega)).step (by omega) λ a j h5 h6=>⟨by omega,h6⟩
     . have h0:=dI c;exact (mF h0).step (by omega) λ a j h1 h2=>(dy h2).step (by omega) λ a j h3 h4=>(rI h4).step (by omega) λ a j h5 h6=>(dy h6).step (by omega) λ a j h7 h8=>(rI h8).step (by omega) λ a j h9 pM=>(dy pM).step (by omega) λ a j xV xW=>(iF j (by omega) (by omega)).step (by omega) λ a j h13 Sd=>⟨by omega,Sd⟩
     . have h0:=dI c;exact (mF h0).step (by omega) λ a j h1 h2=>(dy h2).step (by omega) λ a j h3 h4=>(iF j (by omega) (by omega)).step (by omega) λ a j h5 h6=>(dy h6).step (by omega) λ a j h7 h8=>(iF j (by omega) (by omega)).step (by omega) λ a j h9 pM=>⟨by omega,pM⟩
     . have h0:=dI c;exact (iF (i+1) (by omega) (by omega)).step (by omega) λ a j h1 h2=>(dy h2).step (by omega) λ a j h3 h4=>(iF j (by omega) (by omega)).step (by omega) λ a j h5 h6=>⟨by omega,h6⟩
     . have h0:=dI c;exact (mF h0).step (by omega) λ a j h1 h2=>(dy h2).step (by omega) λ a j h3 h4=>(rI h4).step (by omega) λ a j h5 h6=>(dy h6).step (by omega) λ a j h7 h8=>(iF j (by omega) (by omega)).step (by omega) λ a j h9 pM=>⟨by omega,pM⟩
     . have h0:=abp c.1;exact (mF hi).step (by omega) λ a j h1 h2=>(dy h2).step (by omega) λ a j h3 h4=>(iF j (by omega) (by omega)).step (by omega) λ a j h5 h6=>⟨by omega,h6⟩
     . exact iO i 2 hi (by omega) (by omega)
   . intro i lev hi hl hf;rw[eC];refine .ite (λ c=>?_) λ c9=>.ite (λ c=>.ite (λ d=>?_) λ d=>?_) λ c4=>?_
     . exact iA i hi (by omega)
     . have h0:=dI d;exact (iO (i+1) 4 (by omega) (by omega) (by omega)).step (by omega) λ a j h1 h2=>⟨by omega,h2⟩
     . exact iO i 5 hi (by omega) (by omega)
     . refine (iO i (lev+1) hi (by omega) (by omega)).bind λ a j h1 h2=>?_;exact (iP j lev a h2 (by omega) (by omega)).at' (by omega) (by omega)
   . intro i lev left hi hl hf;rw[lK];split
     . exact⟨bX _,hi⟩
     . rename_i k hk;have h0:=OL hk;refine .ite (λ c=>?_) λ c=>?_
       . exact (rI h0).step (by omega) λ a j h1 h2=>(iP j lev _ h2 hl (by omega)).at' (by omega) (by omega)
       . refine (iO (i+1) (lev+1) h0 (by omega) (by omega)).step (by omega) λ a j h1 h2=>.ite (λ _=>⟨by omega,h2⟩) λ _=>?_;exact (iP j lev _ h2 hl (by omega)).at' (by omega) (by omega)
   . intro i hi hf;rw[gI];refine .ite (λ c=>⟨bX _,dI c⟩) λ _=>.ite (λ c=>⟨bX _,dI c⟩) λ _=>.ite (λ c=>⟨bX _,dI c⟩) λ _=>.ite (λ c=>⟨bX _,dI c⟩) λ _=>.ite (λ c=>?_) λ _=>.ite (λ c=>?_) λ _=>.ite (λ c=>?_) λ _=>.ite (λ c=>?_) λ _=>?_
     . have h0:=dI c;exact (mF h0).step (by omega) λ a j h1 h2=>⟨by omega,h2⟩
     . have h0:=dI c;exact (mF h0).step (by omega) λ a j h1 h2=>⟨by omega,h2⟩
     . have h0:=dI c;exact (iT (i+1) (by omega) (by omega)).step (by omega) λ a j h1 h2=>(dy h2).step (by omega) λ a j h3 h4=>⟨by omega,h4⟩
     . exact (rI hi).step (by omega) λ a j h1 h2=>⟨by omega,h2⟩
     . refine (mF hi).step (by omega) λ a j h1 h2=>.ite (λ c=>?_) λ _=>⟨by omega,h2⟩;have h0:=dI c;exact (iR (j+1) (by omega) (by omega)).step (by omega) λ a j h3 h4=>(iG j _ h4 (by omega)).step (by omega) λ a j h5 h6=>(dy h6).step (by omega) λ a j h7 h8=>⟨by omega,h8⟩
   . intro i acc hi hf;rw[kO];refine .ite (λ c=>?_) λ _=>⟨bX _,hi⟩;have h0:=dI c;exact (iR (i+1) (by omega) (by omega)).step (by omega) λ a j h1 h2=>(iG j _ h2 (by omega)).at' (by omega) (by omega)
   . intro i hi hf;rw[js];refine .ite (λ c=>?_) λ _=>.ite (λ c=>?_) λ _=>?_
     . have h0:=dI c;exact (dy h0).step (by omega) λ a j h1 h2=>(DG (λ i hi=>yN hi) h2 (by omega) (by omega)).step (by omega) λ a j h3 h4=>(dy h4).step (by omega) λ a j h5 h6=>(iF j (by omega) (by omega)).step (by omega) λ a j h7 h8=>⟨by omega,h8⟩
     . have h0:=dI c;exact (dy h0).step (by omega) λ a j h1 h2=>(iF j (by omega) (by omega)).step (by omega) λ a j h3 h4=>(dy h4).step (by omega) λ a j h5 h6=>(dy h6).step (by omega) λ a j h7 h8=>(yN h8).step (by omega) λ a j h9 pM=>(dy pM).step (by omega) λ a j xV xW=>(iF j (by omega) (by omega)).step (by omega) λ a j h13 Sd=>(dy Sd).step (by omega) λ a j h15 h16=>⟨by omega,h16⟩
     . exact iT i hi (by omega)
theorem XB {f:Nat} (hi:i<=L.length) (hf:40*(L.length-i)+11<=f) (ly:L.length<f):Gd L.length (i+1) i (mN L E f i):=by
 unfold mN;refine .ite (λ c=>?_) λ _=>?_
 . have h0:=dI c;exact (mF h0).step (by omega) λ a j h1 h2=>(dy h2).step (by omega) λ a j h3 h4=>(zd h4 ly).step (by omega) λ a j h5 h6=>(dy h6).step (by omega) λ a j h7 h8=>⟨by omega,h8⟩
 . refine Gd.bind (lo:=i+1) (.ite (λ c=>⟨bX _,dI c⟩) λ _=>(dy hi).bind λ a j h1 h2=>⟨h1,h2⟩) λ k j h1 h2=>?_;refine (mF h2).step (by omega) λ a j h3 h4=>(dy h4).step (by omega) λ a j h5 h6=>?_;refine Gd.step (lo1:=j) (lb1:=j) (.ite (λ c=>⟨bX _,h6⟩) λ _=>(DG (λ i hi=>Il hi ly) h6 (by omega) (by omega)).low (by omega)) (by omega) λ a j h7 h8=>?_;exact (dy h8).step (by omega) λ a j h9 pM=>(dy pM).step (by omega) λ a j xV xW=>(rC xW).step (by omega) λ a j h13 Sd=>(dy Sd).step (by omega) λ a j h15 h16=>((AN f).1 j h16 (by omega)).step (by omega) λ a j h17 h18=>(dy h18).step (by omega) λ a j h19 h20=>⟨by omega,h20⟩
theorem EO (hi:i<=L.length):Gd L.length (i+1) i (mN L E (fuel L) i):=XB hi (by unfold fuel; omega) (by unfold fuel; omega)
theorem HI:∀ (f:Nat) (acc:List Nd) (i:Nat),i<=L.length->L.length-i<f->Gd L.length i i (ku L E f acc i)
 | 0,_,_,_,h=>by omega
 | f+1,acc,i,hi,hf=>by
   rw[ku];refine .ite (λ c=>?_) λ _=>⟨bX _,hi⟩;refine (EO hi).bind λ a j h1 h2=>?_;exact (HI f _ j h2 (by omega)).at' (by omega) (by omega)
end
end Go.Rip
namespace Go.Rip
def kB (t:Tk):Prop:=t.s≠[]/\iK t.s=(0,t.k,t.s)
theorem yw (p:UInt8->Bool):∀ l:aG,(l.takeWhile p).takeWhile p=l.takeWhile p
 | []=>rfl
 | c::l=>by
   simp only[mV];cases h:p c with
   | true=>simp[h,yw p l]
   | false=>rfl
theorem LO:∀ x∈jt,iK x=(0,4,x)/\x≠[]:=by decide
theorem Cz {s:aG} {k:Nat} {t:aG} (h:iK s=(0,k,t)):kB ⟨k,t,0⟩/\t <+: s:=by
 have hid:=yw dj s;have tB:=xx dj (l:=s);unfold iK at h;simp only at h;split at h
 . rename_i hw;split at h
   . rename_i x hx;simp only[hY,true_and]at h;obtain⟨rfl,rfl⟩:=h;have hm:=List.mem_of_find?_eq_some hx;have hp:=List.find?_some hx;exact⟨⟨(LO _ hm).2,(LO _ hm).1⟩,List.isPrefixOf_iff_prefix.1 hp⟩
   . simp at h
 . rename_i c r hw;have key:∀ {e:Int} {k:Nat},iK (s.takeWhile dj)=(e,k,s.takeWhile dj)->e=0->kB ⟨k,s.takeWhile dj,0⟩/\s.takeWhile dj <+: s:=λ h1 h2=>⟨⟨by simp[hw],by rw[h1,h2]⟩,tB⟩;split at h
   . rename_i hd;simp only[hY]at h;obtain⟨h1,rfl,rfl⟩:=h;refine key ?_ h1;unfold iK;simp only[hid];rw[hw];simp only[if_pos hd]
   . rename_i hd;split at h
     . simp at h
     . rename_i hs;split at h
       . rename_i hk;simp only[hY,true_and]at h;obtain⟨rfl,rfl⟩:=h;refine key ?_ rfl;unfold iK;simp only[hid];rw[hw]at hk ⊢;simp only[if_neg hd,if_neg hs,if_pos hk]
       . rename_i hk;split at h
         . simp at h
         . rename_i hl;simp only[hY,true_and]at h;obtain⟨rfl,rfl⟩:=h;refine key ?_ rfl;unfold iK;simp only[hid];rw[hw]at hk hl ⊢;simp only[if_neg hd,if_neg hs,if_neg hk,if_neg hl]
theorem Ci:∀ (f:Nat) (s:aG) (p:Nat) (l:List Tk) {L:List Tk},eR f s p l=.ok L->(∀ t∈l,kB t)->l.length<=900->(∀ t∈L,kB t)/\L.length<=900
 | 0,s,p,l,L,h,hl,hn=>by simp only[eR,yJ.ok.injEq]at h; subst h; exact⟨hl,hn⟩
 | f+1,s,p,l,L,h,hl,hn=>by
   simp only[eR]at h;split at h
   . simp only[yJ.ok.injEq]at h; subst h; exact⟨hl,hn⟩
   . split at h
     . exact Ci f s _ l h hl hn
     . split at h
       . exact Ci f s _ l h hl hn
       . split at h
         . cases h
         . rename_i he;split at h
           . cases h
           . rename_i hc;refine Ci f s _ _ h (λ t ht=>?_) (by simp; omega);simp only[fT,kn]at ht;rcases ht with ht|rfl
             . exact hl t ht
             . have mB:(iK _).1=0:=Decidable.not_not.1 he;exact (Cz (Prod.ext mB rfl)).1
theorem vn {s:aG} {L:List Tk} (h:ix s=.ok L):(∀ t∈L,kB t)/\L.length<=900:=by
 unfold ix at h;split at h;split at h
 . cases h
 . exact Ci _ _ _ _ h (by simp) (by simp)
end Go.Rip
namespace Go.Rip
def kW (a:Int) (s:aG):Int:=s.foldl (λ n c=>min (10*n+((c.toNat:Int)-48)) 1000001) a
def lT (a:Int) (s:aG):Int:=s.foldl (λ n c=>10*n+((c.toNat:Int)-48)) a
theorem jA {c:UInt8}:gK c=true↔48<=c.toNat/\c.toNat<=57:=by simp[gK]
theorem Gy:∀ (s:aG) (a:Int),a<=1000001->kW a s<=1000001
 | [],a,h=>h
 | c::s,a,h=>Gy s (min (10*a+((c.toNat:Int)-48)) 1000001) (by omega)
theorem vo:∀ (s:aG) (a:Int),s.all gK=true->0<=a->min a 1000001<=kW a s
 | [],a,_,h=>by simp[kW]; omega
 | c::s,a,hd,h=>by
   simp only[List.all_cons,cb]at hd;have h1:=jA.1 hd.1;have:=vo s (min (10*a+((c.toNat:Int)-48)) 1000001) hd.2 (by omega);have e:kW a (c::s)=kW (min (10*a+((c.toNat:Int)-48)) 1000001) s:=rfl;omega
theorem Ig:∀ (s:aG) (a:Int),s.all gK=true->0<=a->kW a s<=1000000->kW a s=lT a s
 | [],a,_,_,_=>rfl
 | c::s,a,hd,h,hl=>by
   simp only[List.all_cons,cb]at hd;have h1:=jA.1 hd.1;have e:kW a (c::s)=kW (min (10*a+((c.toNat:Int)-48)) 1000001) s:=rfl;have e2:lT a (c::s)=lT (10*a+((c.toNat:Int)-48)) s:=rfl;have hg:=vo s (min (10*a+((c.toNat:Int)-48)) 1000001) hd.2 (by omega);have hm:min (10*a+((c.toNat:Int)-48)) 1000001=10*a+((c.toNat:Int)-48):=by omega
   rw[hm]at e;rw[e,e2];exact Ig s _ hd.2 (by omega) (by omega)
theorem Lo:∀ (s:aG) (a:Int),s.all gK=true->1<=a->kW a s<=1000000->10 ^ s.length*a<=kW a s
 | [],a,_,_,_=>by simp[kW]
 | c::s,a,hd,h,hl=>by
   simp only[List.all_cons,cb]at hd;have h1:=jA.1 hd.1;have e:kW a (c::s)=kW (min (10*a+((c.toNat:Int)-48)) 1000001) s:=rfl;have hg:=vo s (min (10*a+((c.toNat:Int)-48)) 1000001) hd.2 (by omega);have hm:min (10*a+((c.toNat:Int)-48)) 1000001=10*a+((c.toNat:Int)-48):=by omega
   rw[hm]at e;rw[e]at hl ⊢;have:=Lo s _ hd.2 (by omega) hl;have hp:(0:Int)<10 ^ s.length:=Int.pow_pos (by omega);have:10 ^ s.length*(10*a)<=10 ^ s.length*(10*a+((c.toNat:Int)-48)):=Int.mul_le_mul_of_nonneg_left (by omega) (by omega);rw[eX,Int.pow_succ,Int.mul_assoc];omega
theorem Cm {s:aG} (h:pI s=0):s.all gK=true/\¬ (1<s.length/\s.head?=some 48)/\Lp s<=1000000:=by
 unfold pI at h;split at h
 . cases h
 . rename_i h1;split at h
   . cases h
   . rename_i h2;split at h
     . cases h
     . rename_i h3; exact⟨by simpa using h1,h2,by omega⟩
theorem wQ {s:aG} (h0:s≠[]) (h:pI s=0):1<=s.length/\s.length<=7/\Lp s=tn s/\0<=tn s/\tn s<=1000000:=by
 obtain⟨h1,h2,h3⟩:=Cm h;have hv:Lp s=kW 0 s:=rfl;have hd:tn s=lT 0 s:=rfl;have e:=Ig s 0 h1 (by omega) (by omega);have hg:=vo s 0 h1 (by omega);refine⟨?_,?_,by omega,by omega,by omega⟩
 . cases s with
   | nil=>exact absurd rfl h0
   | cons c s=>simp
 . cases s with
   | nil=>simp
   | cons c s =>
     simp only[List.all_cons,cb]at h1;have hc:=jA.1 h1.1;rcases kI s.length 1 with hl|hl
     . simp; omega
     . have NY:c≠48:=λ e=>h2 ⟨by simp; omega,by simp[e]⟩;have vF:c.toNat≠48:=λ e=>NY (by apply UInt8.toNat_inj.1; simpa using e);have e1:kW 0 (c::s)=kW ((c.toNat:Int)-48) s:=by
        show kW (min (10*0+((c.toNat:Int)-48)) 1000001) s=_;congr 1; omega
       have hlen:=Lo s ((c.toNat:Int)-48) h1.2 (by omega) (by omega);rcases kI s.length 7 with hl|hl
       . simp; omega
       . exfalso;have h7:(10:Int) ^ 7<=10 ^ s.length:=by
          have:=Nat.pow_le_pow_right (n:=10) (by omega) hl
          exact_mod_cast this
         have:(10:Int) ^ s.length*1<=10 ^ s.length*((c.toNat:Int)-48):=Int.mul_le_mul_of_nonneg_left (by omega) (by omega);omega
theorem D4 {s:aG} (h:iK s=(0,2,s)) (h0:s≠[]):pI s=0:=by
 unfold iK at h;simp only at h;split at h
 . split at h<;>simp at h
 . rename_i c r hw;split at h
   . simp only[hY,true_and]at h;rw[h.2]at h; exact h.1
   . split at h
     . simp at h
     . split at h
       . simp at h
       . split at h<;>simp at h
theorem Gz {t:Tk} (h:kB t) (hk:t.k=2):pI t.s=0:=D4 (by rw[h.2,hk]) h.1
theorem CI:∀ (s:aG) (a:Nat),s.all gK=true->∃ m,Lib.decFrom a s=some m/\(m:Int)=lT a s
 | [],a,_=>⟨a,rfl,rfl⟩
 | c::s,a,h=>by
   simp only[List.all_cons,cb]at h;have hc:=jA.1 h.1;obtain⟨m,h1,h2⟩:=CI s (a*10+(c.toNat-48)) h.2;refine⟨m,?_,?_⟩
   . simp only[Lib.decFrom,Lib.digitVal,if_pos hc]; exact h1
   . rw[h2];show lT _ s=lT (10*(a:Int)+((c.toNat:Int)-48)) s;congr 1; omega
theorem WB {s:aG} (h0:s≠[]) (h:s.all gK=true):Lib.atoi s=some (tn s):=by
 cases s with
 | nil=>exact absurd rfl h0
 | cons c s =>
   have h':=h;simp only[List.all_cons,cb]at h';have hc:=jA.1 h'.1;obtain⟨m,h1,h2⟩:=CI (c::s) 0 h;have c45:(c==45)=false:=by simp; rintro rfl; simp at hc
   have c43:(c==43)=false:=by simp; rintro rfl; simp at hc
   simp only[Lib.atoi,c45,c43,bZ,if_false,Lib.decNat,List.isEmpty_cons,h1,Option.map_some,iI];exact h2
end Go.Rip
namespace Go.Rip
theorem ql {s:aG} {k:Nat} {t:aG} (h:iK s=(0,k,t)):(k=1/\t∉lW/\t.length<=12/\(∃ c r,t=c::r/\mM c=true)/\t.all dj=true)\/(k=2/\∃ c r,t=c::r/\gK c=true)\/(k=3/\t∈lW)\/(k=4/\t∈jt):=by
 have ck:(s.takeWhile dj).all dj=true:=by
  rw[fm]; intro x hx;have:∀ l:aG,x∈l.takeWhile dj->dj x=true:=λ l=>by
   induction l with
   | nil=>simp
   | cons c l ih =>
     simp only[mV];split
     . rename_i hc;intro h;rcases cK.1 h with rfl|h
       . exact hc
       . exact ih h
     . simp
  exact this s hx
 unfold iK at h;simp only at h;split at h
 . split at h
   . rename_i x hx;simp only[hY,true_and]at h;obtain⟨rfl,rfl⟩:=h;exact .inr (.inr (.inr ⟨rfl,List.mem_of_find?_eq_some hx⟩))
   . simp at h
 . rename_i c r hw;split at h
   . rename_i hd;simp only[hY]at h;obtain⟨h1,rfl,rfl⟩:=h;exact .inr (.inl ⟨rfl,c,r,hw,hd⟩)
   . split at h
     . simp at h
     . rename_i hs;split at h
       . rename_i hk;simp only[hY,true_and]at h;obtain⟨rfl,rfl⟩:=h;exact .inr (.inr (.inl ⟨rfl,hk⟩))
       . rename_i hk;split at h
         . simp at h
         . rename_i hl;simp only[hY,true_and]at h;obtain⟨rfl,rfl⟩:=h;exact .inl ⟨rfl,hk,by omega,⟨c,r,hw,by simpa using hs⟩,ck⟩
theorem kB.cases {t:Tk} (h:kB t):(t.k=1/\t.s∉lW)\/t.k=2\/(t.k=3/\t.s∈lW)\/(t.k=4/\t.s∈jt):=by
 rcases ql h.2 with h|h|h|h
 . exact .inl ⟨h.1,h.2.1⟩
 . exact .inr (.inl h.1)
 . exact .inr (.inr (.inl h))
 . exact .inr (.inr (.inr h))
theorem Qk:∀ w∈lW,w∉jt:=by decide
theorem wF {L:List Tk} {i:Nat} {w:aG} (h:bm L i w=true):∃ t,L[i]?=some t/\(t.k=3\/t.k=4)/\t.s=w:=by
 unfold bm at h;split at h
 . rename_i t ht;simp only[cb,kJ,beq_iff_eq]at h;exact⟨t,ht,h.1,h.2⟩
 . cases h
theorem abr {L:List Tk} {i:Nat} {w:aG} {t:Tk} (ht:L[i]?=some t) (hk:t.k=3\/t.k=4) (hs:t.s=w):bm L i w=true:=by
 unfold bm; rw[ht]; simp[hs,hk]
theorem abq {L:List Tk} (hL:∀ t∈L,kB t) {i:Nat} {w:aG} (hw:w∈lW) (h:bm L i w=true):∃ t,L[i]?=some t/\t.k=3/\t.s=w:=by
 obtain⟨t,ht,hk,hs⟩:=wF h;refine⟨t,ht,?_,hs⟩;rcases hk with hk|hk
 . exact hk
 . rcases (hL t (gw ht)).cases with h|h|h|h
   . omega
   . omega
   . omega
   . rw[hs]at h; exact absurd h.2 (Qk w hw)
def tM (o:Option Tk):aG:=match o with|some t=>if t.k=3\/t.k=4 then t.s else []|none=>[]
theorem HH {L:List Tk} {i:Nat} {w:aG} (hw:w≠[]):bm L i w=decide (tM L[i]?=w):=by
 unfold bm tM;split
 . rename_i t ht
   by_cases h:t.k=3\/t.k=4
   . by_cases hs:t.s=w<;>simp[ht,h,hs]
   . have h3:¬ t.k=3:=λ e=>h (.inl e);have h4:¬ t.k=4:=λ e=>h (.inr e);simp[ht,h3,h4,Ne.symm hw]
 . rename_i ht; simp[ht,Ne.symm hw]
end Go.Rip
namespace Go.Rip
theorem PR.ai {α β:Type} {x:PR α} {f:α->Nat->PR β} {b:β} {j:Nat} (h:x.bind f=.ok b j):∃ a i,x=.ok a i/\f a i=.ok b j:=by
 cases x with
 | ok a i=>exact⟨a,i,rfl,h⟩
 | bad i=>cases h
 | out=>cases h
theorem PR.aW {α:Type} {a b:α} {i j:Nat} (h:PR.ok a i=PR.ok b j):a=b/\i=j:=by cases h; exact⟨rfl,rfl⟩
theorem cT {L:List Tk} {w:aG} {i j:Nat} {u:Unit} (h:bM L w i=.ok u j):j=i+1:=by
 unfold bM at h; split at h<;>cases h; rfl
theorem kG {L:List Tk} {i j:Nat} {u:aG} (h:gX L i=.ok u j):j=i+1:=by
 unfold gX at h; split at h
 . split at h<;>cases h; rfl
 . cases h
theorem o7 {L:List Tk} {i j:Nat} {u:Int} (h:jo L i=.ok u j):j=i+1:=by
 unfold jo at h; split at h
 . split at h<;>cases h; rfl
 . cases h
theorem cj (k:Int) (t:aG) (n m a:Int) (l:List Nd):(node k t n m a l).length=l.length+1:=rfl
section
variable {L:List Tk} {E:Nat}
theorem wk {i j:Nat} {ns:List Nd} (h:gn L E i=.ok ns j):ns.length+i<=j:=by
 unfold gn at h;split at h
 . obtain⟨rfl,rfl⟩:=PR.aW h; simp[cj]; omega
 . split at h
   . obtain⟨rfl,rfl⟩:=PR.aW h; simp[cj]; omega
   . split at h
     . obtain⟨_,_,h1,h⟩:=PR.ai h;have:=o7 h1;obtain⟨rfl,rfl⟩:=PR.aW h; simp[cj]; omega
     . obtain⟨_,_,h1,h⟩:=PR.ai h;obtain⟨_,_,h2,h⟩:=PR.ai h;have:=cT h1; have:=o7 h2;obtain⟨rfl,rfl⟩:=PR.aW h; simp[cj]; omega
theorem G7 {i j:Nat} {ns:List Nd} (h:lS L E i=.ok ns j):ns.length+i<=j:=by
 unfold lS at h;obtain⟨_,_,h1,h⟩:=PR.ai h;have:=kG h1;obtain⟨rfl,rfl⟩:=PR.aW h; simp[cj]; omega
theorem H6 {one:Nat->PR (List Nd)} (h1:∀ {i j ns},one i=.ok ns j->ns.length+i<=j):∀ (f:Nat) (acc:List Nd) (i:Nat) {j:Nat} {ns:List Nd},mO L one f acc i=.ok ns j->ns.length+i<=j+acc.length
 | 0,_,_,_,_,h=>by cases h
 | f+1,acc,i,j,ns,h=>by
   unfold mO at h;split at h
   . obtain⟨_,_,h2,h⟩:=PR.ai h;have:=h1 h2;have:=H6 h1 f _ _ h;simp at this; omega
   . obtain⟨rfl,rfl⟩:=PR.aW h; omega
theorem Bf {one:Nat->PR (List Nd)} (h1:∀ {i j ns},one i=.ok ns j->ns.length+i<=j) {f i j:Nat} {ns:List Nd} (h:jW L one f i=.ok ns j):ns.length+i<=j:=by
 unfold jW at h;obtain⟨_,_,h2,h⟩:=PR.ai h;have:=h1 h2;have:=H6 h1 f _ _ h;omega
theorem HV {f i j:Nat} {ns:List Nd} (h:jI L E f i=.ok ns j):ns.length+i<=j:=by
 unfold jI at h;split at h
 . obtain⟨_,_,h1,h⟩:=PR.ai h;obtain⟨_,_,h2,h⟩:=PR.ai h;obtain⟨_,_,h3,h⟩:=PR.ai h;obtain⟨_,_,h4,h⟩:=PR.ai h;have:=Bf (λ h=>wk h) h1; have:=cT h2; have:=cT h3; have:=wk h4;obtain⟨rfl,rfl⟩:=PR.aW h; simp[cj]; omega
 . exact wk h
theorem QG {f i j:Nat} {ns:List Nd} (h:j0 L E f i=.ok ns j):ns.length+i<=j:=by
 unfold j0 at h;obtain⟨_,_,h1,h⟩:=PR.ai h;obtain⟨_,_,h2,h⟩:=PR.ai h;obtain⟨_,_,h3,h⟩:=PR.ai h;have:=kG h1; have:=cT h2; have:=HV h3;obtain⟨rfl,rfl⟩:=PR.aW h; simp[cj]; omega
theorem Xc:∀ f:Nat,
 (∀ {i j ns},ig L E f i=.ok ns j->ns.length+i<=j) /\
 (∀ {i at_ acc many j ns},nN L E f at_ acc many i=.ok ns j->ns.length+i<=j+acc.length+(if many=1 then 0 else 1)) /\
 (∀ {i j ns},bF L E f i=.ok ns j->ns.length+i<=j) /\
 (∀ {i lev j ns},eC L E f lev i=.ok ns j->ns.length+i<=j) /\
 (∀ {i lev left j ns},lK L E f lev left i=.ok ns j->ns.length+i<=j+left.length) /\
 (∀ {i j ns},gI L E f i=.ok ns j->ns.length+i<=j) /\
 (∀ {i acc j ns},kO L E f acc i=.ok ns j->ns.length+i<=j+acc.length) /\
 (∀ {i j ns},js L E f i=.ok ns j->ns.length+i<=j):=by
 intro f
 induction f with
 | zero=>refine⟨?_,?_,?_,?_,?_,?_,?_,?_⟩<;>(intros; rename_i h; first|(rw[ig]at h; cases h; done)|(rw[nN]at h; cases h; done)|(rw[bF]at h; cases h; done)|(rw[eC]at h; cases h; done)|(rw[lK]at h; cases h; done)|(rw[gI]at h; cases h; done)|(rw[kO]at h; cases h; done)|(rw[js]at h; cases h; done))
 | succ f ih =>
   obtain⟨iT,iS,iF,iO,iP,iA,iG,iR⟩:=ih;refine⟨?_,?_,?_,?_,?_,?_,?_,?_⟩
   . intro i j ns h;rw[ig]at h;obtain⟨_,_,h1,h⟩:=PR.ai h;have:=iF h1; have:=iS h;simp at this; omega
   . intro i at_ acc many j ns h;rw[nN]at h;split at h
     . obtain⟨_,_,h1,h⟩:=PR.ai h;have:=iF h1; have:=iS h;simp only[cO]at this;split at this<;>split<;>omega
     . obtain⟨rfl,rfl⟩:=PR.aW h;split<;>simp[cj]<;>omega
   . intro i j ns h;rw[bF]at h;split at h
     . obtain⟨_,_,h1,h⟩:=PR.ai h;obtain⟨_,_,h2,h⟩:=PR.ai h;obtain⟨_,_,h3,h⟩:=PR.ai h;obtain⟨_,_,h4,h⟩:=PR.ai h;obtain⟨_,_,h5,h⟩:=PR.ai h;have:=iF h1; have:=cT h2; have:=iF h3; have:=cT h4; have:=iF h5;obtain⟨rfl,rfl⟩:=PR.aW h; simp[cj]; omega
     split at h
     . obtain⟨_,_,h1,h⟩:=PR.ai h;obtain⟨_,_,h2,h⟩:=PR.ai h;obtain⟨_,_,h3,h⟩:=PR.ai h;have:=iF h1; have:=cT h2; have:=iF h3;obtain⟨rfl,rfl⟩:=PR.aW h; simp[cj]; omega
     split at h
     . obtain⟨_,_,h1,h⟩:=PR.ai h;obtain⟨_,_,h2,h⟩:=PR.ai h;obtain⟨_,_,h3,h⟩:=PR.ai h;obtain⟨_,_,h4,h⟩:=PR.ai h;obtain⟨_,_,h5,h⟩:=PR.ai h;obtain⟨_,_,h6,h⟩:=PR.ai h;obtain⟨_,_,h7,h⟩:=PR.ai h;have:=kG h1; have:=cT h2; have:=o7 h3; have:=cT h4; have:=o7 h5; have:=cT h6; have:=iF h7;obtain⟨rfl,rfl⟩:=PR.aW h; simp[cj]; omega
     split at h
     . obtain⟨_,_,h1,h⟩:=PR.ai h;obtain⟨_,_,h2,h⟩:=PR.ai h;obtain⟨_,_,h3,h⟩:=PR.ai h;obtain⟨_,_,h4,h⟩:=PR.ai h;obtain⟨_,_,h5,h⟩:=PR.ai h;have:=kG h1; have:=cT h2; have:=iF h3; have:=cT h4; have:=iF h5;obtain⟨rfl,rfl⟩:=PR.aW h; simp[cj]; omega
     split at h
     . obtain⟨_,_,h1,h⟩:=PR.ai h;obtain⟨_,_,h2,h⟩:=PR.ai h;obtain⟨_,_,h3,h⟩:=PR.ai h;have:=iF h1; have:=cT h2; have:=iF h3;obtain⟨rfl,rfl⟩:=PR.aW h; simp[cj]; omega
     split at h
     . obtain⟨_,_,h1,h⟩:=PR.ai h;obtain⟨_,_,h2,h⟩:=PR.ai h;obtain⟨_,_,h3,h⟩:=PR.ai h;obtain⟨_,_,h4,h⟩:=PR.ai h;obtain⟨_,_,h5,h⟩:=PR.ai h;have:=kG h1; have:=cT h2; have:=o7 h3; have:=cT h4; have:=iF h5;obtain⟨rfl,rfl⟩:=PR.aW h; simp[cj]; omega
     split at h
     . obtain⟨_,_,h1,h⟩:=PR.ai h;obtain⟨_,_,h2,h⟩:=PR.ai h;obtain⟨_,_,h3,h⟩:=PR.ai h;have:=kG h1; have:=cT h2; have:=iF h3;obtain⟨rfl,rfl⟩:=PR.aW h; simp[cj]; omega
     . exact iO h
   . intro i lev j ns h;rw[eC]at h;split at h
     . exact iA h
     split at h
     . split at h
       . obtain⟨_,_,h1,h⟩:=PR.ai h;have:=iO h1;obtain⟨rfl,rfl⟩:=PR.aW h; simp[cj]; omega
       . exact iO h
     . obtain⟨_,_,h1,h⟩:=PR.ai h;have:=iO h1; have:=iP h;omega
   . intro i lev left j ns h;rw[lK]at h;split at h
     . obtain⟨rfl,rfl⟩:=PR.aW h; omega
     split at h
     . obtain⟨_,_,h1,h⟩:=PR.ai h;have:=o7 h1; have:=iP h;simp[cj]at this; omega
     . obtain⟨_,_,h1,h⟩:=PR.ai h;have:=iO h1;split at h
       . obtain⟨rfl,rfl⟩:=PR.aW h; simp[cj]; omega
       . have:=iP h;simp[cj]at this; omega
   . intro i j ns h;rw[gI]at h;split at h
     . obtain⟨rfl,rfl⟩:=PR.aW h; simp[cj]; omega
     split at h
     . obtain⟨rfl,rfl⟩:=PR.aW h; simp[cj]; omega
     split at h
     . obtain⟨rfl,rfl⟩:=PR.aW h; simp[cj]; omega
     split at h
     . obtain⟨rfl,rfl⟩:=PR.aW h; simp[cj]; omega
     split at h
     . obtain⟨_,_,h1,h⟩:=PR.ai h;have:=kG h1;obtain⟨rfl,rfl⟩:=PR.aW h; simp[cj]; omega
     split at h
     . obtain⟨_,_,h1,h⟩:=PR.ai h;have:=kG h1;obtain⟨rfl,rfl⟩:=PR.aW h; simp[cj]; omega
     split at h
     . obtain⟨_,_,h1,h⟩:=PR.ai h;obtain⟨_,_,h2,h⟩:=PR.ai h;have:=iT h1; have:=cT h2;obtain⟨rfl,rfl⟩:=PR.aW h; omega
     split at h
     . obtain⟨_,_,h1,h⟩:=PR.ai h;have:=o7 h1;obtain⟨rfl,rfl⟩:=PR.aW h; simp[cj]; omega
     . obtain⟨_,_,h1,h⟩:=PR.ai h;have:=kG h1;split at h
       . obtain⟨_,_,h2,h⟩:=PR.ai h;obtain⟨_,_,h3,h⟩:=PR.ai h;obtain⟨_,_,h4,h⟩:=PR.ai h;have:=iR h2; have:=iG h3; have:=cT h4;obtain⟨rfl,rfl⟩:=PR.aW h; simp[cj]; omega
       . obtain⟨rfl,rfl⟩:=PR.aW h; simp[cj]; omega
   . intro i acc j ns h;rw[kO]at h;split at h
     . obtain⟨_,_,h1,h⟩:=PR.ai h;have:=iR h1; have:=iG h;simp at this; omega
     . obtain⟨rfl,rfl⟩:=PR.aW h; omega
   . intro i j ns h;rw[js]at h;split at h
     . obtain⟨_,_,h1,h⟩:=PR.ai h;obtain⟨_,_,h2,h⟩:=PR.ai h;obtain⟨_,_,h3,h⟩:=PR.ai h;obtain⟨_,_,h4,h⟩:=PR.ai h;have:=cT h1; have:=Bf (λ h=>G7 h) h2; have:=cT h3; have:=iF h4;obtain⟨rfl,rfl⟩:=PR.aW h; simp[cj]; omega
     split at h
     . obtain⟨_,_,h1,h⟩:=PR.ai h;obtain⟨_,_,h2,h⟩:=PR.ai h;obtain⟨_,_,h3,h⟩:=PR.ai h;obtain⟨_,_,h4,h⟩:=PR.ai h;obtain⟨_,_,h5,h⟩:=PR.ai h;obtain⟨_,_,h6,h⟩:=PR.ai h;obtain⟨_,_,h7,h⟩:=PR.ai h;obtain⟨_,_,h8,h⟩:=PR.ai h;have:=cT h1; have:=iF h2; have:=cT h3; have:=cT h4; have:=G7 h5; have:=cT h6; have:=iF h7; have:=cT h8;obtain⟨rfl,rfl⟩:=PR.aW h; simp[cj]; omega
     . exact iT h
theorem SY {f i j:Nat} {ns:List Nd} (h:mN L E f i=.ok ns j):ns.length+i<=j:=by
 unfold mN at h;split at h
 . obtain⟨_,_,h1,h⟩:=PR.ai h;obtain⟨_,_,h2,h⟩:=PR.ai h;obtain⟨_,_,h3,h⟩:=PR.ai h;obtain⟨_,_,h4,h⟩:=PR.ai h;have:=kG h1; have:=cT h2; have:=HV h3; have:=cT h4;obtain⟨rfl,rfl⟩:=PR.aW h; simp[cj]; omega
 . obtain⟨k,p,h0,h⟩:=PR.ai h;obtain⟨_,_,h1,h⟩:=PR.ai h;obtain⟨_,_,h2,h⟩:=PR.ai h;obtain⟨_,_,h3,h⟩:=PR.ai h;obtain⟨_,_,h4,h⟩:=PR.ai h;obtain⟨_,_,h5,h⟩:=PR.ai h;obtain⟨_,_,h6,h⟩:=PR.ai h;obtain⟨_,_,h7,h⟩:=PR.ai h;obtain⟨_,_,h8,h⟩:=PR.ai h;obtain⟨_,_,h9,h⟩:=PR.ai h;have hp:p=i+1:=by
    split at h0
    . exact (PR.aW h0).2.symm
    . obtain⟨_,_,g1,g2⟩:=PR.ai h0;have:=cT g1;have:=(PR.aW g2).2;omega
   have h3':∀ {a:List Nd} {j q:Nat},(if bm L j bJ=true then (PR.ok [] j:PR (List Nd)) else jW L (j0 L E f) f j)=.ok a q->a.length+j<=q:=λ h=>by
    split at h
    . obtain⟨rfl,rfl⟩:=PR.aW h; simp
    . exact Bf (λ h=>QG h) h
   have:=kG h1; have:=cT h2; have:=h3' h3; have:=cT h4; have:=cT h5; have:=wk h6; have:=cT h7; have:=(Xc f).1 h8; have:=cT h9;obtain⟨rfl,rfl⟩:=PR.aW h; simp[cj]; omega
end
end Go.Rip
