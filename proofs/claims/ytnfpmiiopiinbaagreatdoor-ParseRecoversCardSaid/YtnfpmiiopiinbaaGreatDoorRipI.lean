/- Lemmas for the proof: no conditions. -/
import Derived.Test.YtnfpmiiopiinbaaGreatDoorRipZz
import Derived.Test.YtnfpmiiopiinbaaGreatDoorRipD
import Derived.Lib.Atoi
set_option linter.unusedVariables false
set_option linter.unusedSimpArgs false
set_option linter.loopingSimpArgs false
namespace Go.Rip
abbrev aT:=List UInt8
structure Tk where
 k:Nat
 s:aT
 at_:Nat
 deriving DecidableEq
structure Nd where
 kind:Int
 text:aT
 n:Int
 m:Int
 at_:Int
 size:Int
 deriving DecidableEq
def gD (c:UInt8):Bool:=decide (48<=c.toNat/\c.toNat<=57)
def oH (c:UInt8):Bool:=decide (97<=c.toNat/\c.toNat<=122)
def Jm (c:UInt8):Bool:=decide (65<=c.toNat/\c.toNat<=90)
def eh (c:UInt8):Bool:=gD c||oH c||Jm c
def oG (c:UInt8):Bool:=decide (c.toNat=10\/32<=c.toNat/\c.toNat<=126)
def Fi (s:aT):Int:=s.foldl (λ n c=>min (10*n+((c.toNat:Int)-48)) 1000001) 0
def uo (s:aT):Int:=s.foldl (λ n c=>10*n+((c.toNat:Int)-48)) 0
def nU (s:aT):Int:=if s.all gD=false then 4 else if 1<s.length/\s.head?=some 48 then 4 else if 1000000<Fi s then 3 else 0
def ph:List aT:=[AZ,F5,F6,F7,py,J7,fA,Ga,mC,ef,gK,Gb,J9,mD,zC,ep,tc,Ka,o4,qO,yh,DI,pz,ac6,Gc,Kc,kJ,xA,gr,pA]
def rL:List aT:=[cJ,gJ,pM,ye,yc,yd,yb,qI,jx,gE,yf,DG,AY,j9,mQ,DF]
def fg (s:aT):Int×Nat×aT :=
 let w:=s.takeWhile eh
 match w with
 | []=>match rL.find? λ x=>x.isPrefixOf s with
   | some x=>(0,4,x)
   | none=>(4,0,[])
 | c::_=>if gD c then (nU w,2,w) else if oH c=false then (4,0,[]) else if w∈ph then (0,3,w) else if 12<w.length then (4,0,[]) else (0,1,w)
inductive uf where
 | ok (l:List Tk)
 | bad (p:Nat) (e:Int)
def dE:Nat->aT->Nat->List Tk->uf
 | 0,_,_,l=>.ok l
 | f+1,s,p,l=>match s.drop p with
   | []=>.ok l
   | c::r=>if c.toNat=32\/c.toNat=10 then dE f s (p+1) l
     else if c.toNat=126 then dE f s (p+((c::r).takeWhile λ c=>c.toNat≠10).length) l
     else match fg (c::r) with
      | (e,k,t)=>if e≠0 then .bad p e else if l.length=900 then .bad p 5 else dE f s (p+t.length) (l++[⟨k,t,p⟩])
def qS (s:aT):Nat×Int:=if 2500<s.length then (0,5) else match s.findIdx? (λ c=>!oG c) with|some i=>(i,2)|none=>(0,0)
def eA (s:aT):uf:=match qS s with
 | (p,e)=>if e≠0 then .bad p e else dE s.length s 0 []
inductive PR (α:Type) where
 | ok (a:α) (i:Nat)
 | bad (i:Nat)
 | out
def PR.bind {α β:Type} (x:PR α) (f:α->Nat->PR β):PR β:=match x with
 | .ok a i=>f a i
 | .bad i=>.bad i
 | .out=>.out
def node (kind:Int) (text:aT) (n m at_:Int) (kids:List Nd):List Nd:=⟨kind,text,n,m,at_,(kids.length:Int)+1⟩::kids
section
variable (L:List Tk) (E:Nat)
def cU (i:Nat):Int:=match L[i]? with|some t=>t.at_|none=>E
def bB (i:Nat) (w:aT):Bool:=match L[i]? with|some t=>(t.k==3||t.k==4)&&t.s==w|none=>false
def nh (i:Nat) (k:Nat):Bool:=match L[i]? with|some t=>t.k==k|none=>false
def dW (i:Nat):Bool:=bB L i ep||bB L i fA||bB L i ef
def bq (w:aT) (i:Nat):PR Unit:=if bB L i w=true then .ok () (i+1) else .bad i
def eK (i:Nat):PR aT:=match L[i]? with|some t=>if t.k=1 then .ok t.s (i+1) else .bad i|none=>.bad i
def fW (i:Nat):PR Int:=match L[i]? with|some t=>if t.k=2 then .ok (uo t.s) (i+1) else .bad i|none=>.bad i
def j6 (one:Nat->PR (List Nd)):Nat->List Nd->Nat->PR (List Nd)
 | 0,_,_=>.out
 | f+1,acc,i=>if bB L i AY=true then (one (i+1)).bind λ b j=>j6 one f (acc++b) j else .ok acc i
def gl (one:Nat->PR (List Nd)) (f:Nat) (i:Nat):PR (List Nd):=(one i).bind λ a j=>j6 L one f a j
def iC (i:Nat):PR (List Nd) :=
 if bB L i J7=true then .ok (node 6 [] 1 0 (cU L E i) []) (i+1)
 else if bB L i F6=true then .ok (node 6 [] 2 0 (cU L E i) []) (i+1)
 else if bB L i F7=true then (fW L (i+1)).bind λ n j=>.ok (node 7 [] n 0 (cU L E i) []) j
 else (bq L Ka i).bind λ _ j=>(fW L j).bind λ n j=>.ok (node 6 [] n 0 (cU L E i) []) j
def mI (f:Nat) (i:Nat):PR (List Nd) :=
 if bB L i jx=true then (gl L (iC L E) f (i+1)).bind λ a j=>(bq L gE j).bind λ _ j=>(bq L gJ j).bind λ _ j=>(iC L E j).bind λ b j=>.ok (node 8 [] 0 0 (cU L E i) (a++b)) j
 else iC L E i
def iw (f:Nat) (i:Nat):PR (List Nd):=(eK L i).bind λ x j=>(bq L mQ j).bind λ _ j=>(mI L E f j).bind λ a j=>.ok (node 5 x 0 0 (cU L E i) a) j
def lS (i:Nat):PR (List Nd):=(eK L i).bind λ x j=>.ok (node 37 x 0 0 (cU L E i) []) j
def oM (lev:Nat) (i:Nat):Option Int :=
 if lev=2 then if bB L i Gc=true then some 17 else none
 else if lev=3 then if bB L i AZ=true then some 18 else none
 else if lev=5 then if bB L i pM=true then some 20 else if bB L i ye=true then some 21 else none
 else if lev=6 then if bB L i yc=true then some 22 else if bB L i yd=true then some 23 else none
 else if lev=7 then if bB L i yb=true then some 24 else none
 else if lev=8 then if bB L i F5=true then some 25 else none
 else none
mutual
def fX:Nat->Nat->PR (List Nd)
 | 0,_=>.out
 | f+1,i=>(bU f i).bind λ a j=>lQ f (cU L E j) a 1 j
def lQ:Nat->Int->List Nd->Nat->Nat->PR (List Nd)
 | 0,_,_,_,_=>.out
 | f+1,at_,acc,many,i=>if bB L i j9=true/\i+1<L.length/\dW L (i+1)=false then (bU f (i+1)).bind λ b j=>lQ f at_ (acc++b) (many+1) j
   else .ok (if many=1 then acc else node 9 [] 0 0 at_ acc) i
def bU:Nat->Nat->PR (List Nd)
 | 0,_=>.out
 | f+1,i =>
   if bB L i zC=true then (bU f (i+1)).bind λ c j=>(bq L xA j).bind λ _ j=>(bU f j).bind λ a j=>(bq L mC j).bind λ _ j=>(bU f j).bind λ b j=>.ok (node 10 [] 0 0 (cU L E i) (c++a++b)) j
   else if bB L i pA=true then (bU f (i+1)).bind λ a j=>(bq L Ga j).bind λ _ j=>(bU f j).bind λ b j=>.ok (node 11 [] 0 0 (cU L E i) (a++b)) j
   else if bB L i yh=true then (eK L (i+1)).bind λ x j=>(bq L mQ j).bind λ _ j=>(fW L j).bind λ n j=>(bq L cJ j).bind λ _ j=>(fW L j).bind λ m j=>(bq L tc j).bind λ _ j=>(bU f j).bind λ a j=>.ok (node 12 x n m (cU L E i) a) j
   else if bB L i qO=true then (eK L (i+1)).bind λ x j=>(bq L tc j).bind λ _ j=>(bU f j).bind λ a j=>(bq L mC j).bind λ _ j=>(bU f j).bind λ b j=>.ok (node 13 x 0 0 (cU L E i) (a++b)) j
   else if bB L i py=true then (bU f (i+1)).bind λ a j=>(bq L mC j).bind λ _ j=>(bU f j).bind λ b j=>.ok (node 15 [] 0 0 (cU L E i) (a++b)) j
   else if bB L i pz=true then (eK L (i+1)).bind λ x j=>(bq L cJ j).bind λ _ j=>(fW L j).bind λ n j=>(bq L tc j).bind λ _ j=>(bU f j).bind λ a j=>.ok (node 14 x n 0 (cU L E i) a) j
   else if nh L i 1=true/\bB L (i+1) cJ=true then (eK L i).bind λ x j=>(bq L cJ j).bind λ _ j=>(bU f j).bind λ a j=>.ok (node 16 x 0 0 (cU L E i) a) j
   else eT f 2 i
def eT:Nat->Nat->Nat->PR (List Nd)
 | 0,_,_=>.out
 | f+1,lev,i =>
   if lev=9 then js f i
   else if lev=4 then if bB L i DI=true then (eT f 4 (i+1)).bind λ a j=>.ok (node 19 [] 0 0 (cU L E i) a) j else eT f 5 i
   else (eT f (lev+1) i).bind λ a j=>jS f lev a j
def jS:Nat->Nat->List Nd->Nat->PR (List Nd)
 | 0,_,_,_=>.out
 | f+1,lev,left,i=>match oM L lev i with
   | none=>.ok left i
   | some kind=>if lev=8 then (fW L (i+1)).bind λ n j=>jS f lev (node kind [] n 0 (cU L E i) left) j
     else (eT f (lev+1) (i+1)).bind λ b j=>if lev=5 then .ok (node kind [] 0 0 (cU L E i) (left++b)) j else jS f lev (node kind [] 0 0 (cU L E i) (left++b)) j
def js:Nat->Nat->PR (List Nd)
 | 0,_=>.out
 | f+1,i =>
   if bB L i gr=true then .ok (node 27 [] 0 0 (cU L E i) []) (i+1)
   else if bB L i gK=true then .ok (node 28 [] 0 0 (cU L E i) []) (i+1)
   else if bB L i kJ=true then .ok (node 29 [] 0 0 (cU L E i) []) (i+1)
   else if bB L i mD=true then .ok (node 30 [] 0 0 (cU L E i) []) (i+1)
   else if bB L i o4=true then (eK L (i+1)).bind λ x j=>.ok (node 31 x 0 0 (cU L E i) []) j
   else if bB L i qI=true then (eK L (i+1)).bind λ x j=>.ok (node 32 x 0 0 (cU L E i) []) j
   else if bB L i jx=true then (fX f (i+1)).bind λ a j=>(bq L gE j).bind λ _ j=>.ok a j
   else if nh L i 2=true then (fW L i).bind λ n j=>.ok (node 26 [] n 0 (cU L E i) []) j
   else (eK L i).bind λ x j=>if bB L j jx=true then (iz f (j+1)).bind λ a j=>(hY f a j).bind λ a j=>(bq L gE j).bind λ _ j=>.ok (node 34 x 0 0 (cU L E i) a) j
    else .ok (node 33 x 0 0 (cU L E i) []) j
def hY:Nat->List Nd->Nat->PR (List Nd)
 | 0,_,_=>.out
 | f+1,acc,i=>if bB L i AY=true then (iz f (i+1)).bind λ b j=>hY f (acc++b) j else .ok acc i
def iz:Nat->Nat->PR (List Nd)
 | 0,_=>.out
 | f+1,i =>
   if bB L i Gb=true then (bq L jx (i+1)).bind λ _ j=>(gl L (lS L E) (L.length+1) j).bind λ a j=>(bq L gE j).bind λ _ j=>(bU f j).bind λ b j=>.ok (node 35 [] 0 0 (cU L E i) (a++b)) j
   else if bB L i yf=true then (bq L J9 (i+1)).bind λ _ j=>(bU f j).bind λ a j=>(bq L j9 j).bind λ _ j=>(bq L Kc j).bind λ _ j=>(lS L E j).bind λ b j=>(bq L DF j).bind λ _ j=>(bU f j).bind λ c j=>(bq L DG j).bind λ _ j=>.ok (node 36 [] 0 0 (cU L E i) (a++b++c)) j
   else fX f i
end
def eJ (f:Nat) (i:Nat):PR (List Nd) :=
 if bB L i ep=true then (eK L (i+1)).bind λ x j=>(bq L mQ j).bind λ _ j=>(mI L E f j).bind λ a j=>(bq L j9 j).bind λ _ j=>.ok (node 2 x 0 0 (cU L E i) a) j
 else (if bB L i fA=true then .ok 3 (i+1) else (bq L ef i).bind λ _ j=>.ok 4 j:PR Int).bind λ k j =>
  (eK L j).bind λ x j=>(bq L jx j).bind λ _ j =>
  (if bB L j gE=true then .ok [] j else gl L (iw L E f) f j).bind λ a j =>
  (bq L gE j).bind λ _ j=>(bq L mQ j).bind λ _ j=>(iC L E j).bind λ b j=>(bq L pM j).bind λ _ j=>(fX L E f j).bind λ c j =>
  (bq L j9 j).bind λ _ j=>.ok (node k x 0 0 (cU L E i) (a++b++c)) j
def fuel:Nat:=40*(L.length+2)
def gT:Nat->List Nd->Nat->PR (List Nd)
 | 0,_,_=>.out
 | f+1,acc,i=>if i<L.length then (eJ L E (fuel L) i).bind λ a j=>gT f (acc++a) j else .ok acc i
end
end Go.Rip
namespace Go.Rip
def Gd {α:Type} (n lo lb:Nat):PR α->Prop
 | .ok _ j=>lo<=j/\j<=n
 | .bad j=>lb<=j/\j<=n
 | .out=>False
section
variable {α β:Type} {n lo CG lb i:Nat} {L:List Tk} {E:Nat}
theorem Gd.bind {x:PR α} {f:α->Nat->PR β} (h:Gd n lo lb x) (k:∀ a j,lo<=j->j<=n->Gd n CG lb (f a j)):Gd n CG lb (x.bind f):=by
 cases x with
 | ok a j=>exact k a j h.1 h.2
 | bad j=>exact h
 | out=>exact h.elim
theorem Gd.ite {c:Prop} [Decidable c] {x y:PR α} (h:c->Gd n lo lb x) (k:¬ c->Gd n lo lb y):Gd n lo lb (if c then x else y):=by
 split
 . exact h ‹_›
 . exact k ‹_›
theorem Gd.low {x:PR α} (h:Gd n lo lb x) (k:CG<=lo):Gd n CG lb x:=by
 cases x with
 | ok a j=>exact⟨Nat.le_trans k h.1,h.2⟩
 | bad j=>exact h
 | out=>exact h
theorem Gd.rq {lb':Nat} {x:PR α} (h:Gd n lo lb x) (k:lb'<=lb):Gd n lo lb' x:=by
 cases x with
 | ok a j=>exact h
 | bad j=>exact⟨Nat.le_trans k h.1,h.2⟩
 | out=>exact h
theorem Gd.at' {lb':Nat} {x:PR α} (h:Gd n lo lb x) (k:CG<=lo) (k':lb'<=lb):Gd n CG lb' x:=(h.low k).rq k'
theorem bp {w:aT} (h:bB L i w=true):i<L.length:=by
 unfold bB at h;split at h
 . rename_i t ht; exact (dp.1 ht).1
 . cases h
theorem HJ {k:Nat} (h:nh L i k=true):i<L.length:=by
 unfold nh at h;split at h
 . rename_i t ht; exact (dp.1 ht).1
 . cases h
theorem cD {w:aT} (h:i<=L.length):Gd L.length (i+1) i (bq L w i):=by
 unfold bq;exact .ite (λ c=>⟨cN _,bp c⟩) λ _=>⟨cN _,h⟩
theorem jh (h:i<=L.length):Gd L.length (i+1) i (eK L i):=by
 unfold eK;split
 . rename_i t ht;have:=(dp.1 ht).1;exact .ite (λ c=>⟨cN _,this⟩) λ _=>⟨cN _,h⟩
 . exact⟨cN _,h⟩
theorem nV (h:i<=L.length):Gd L.length (i+1) i (fW L i):=by
 unfold fW;split
 . rename_i t ht;have:=(dp.1 ht).1;exact .ite (λ c=>⟨cN _,this⟩) λ _=>⟨cN _,h⟩
 . exact⟨cN _,h⟩
theorem Fb {one:Nat->PR (List Nd)} (h1:∀ i,i<=L.length->Gd L.length (i+1) i (one i)):∀ (f:Nat) (acc:List Nd) (i:Nat),i<=L.length->L.length-i<f->Gd L.length i i (j6 L one f acc i)
 | 0,acc,i,hi,hf=>by omega
 | f+1,acc,i,hi,hf=>by
   unfold j6;refine .ite (λ c=>?_) λ _=>⟨cN _,hi⟩;have:=bp c;refine ((h1 (i+1) this).rq (lb':=i) (by omega)).bind λ b j h2 h3=>?_;exact (Fb h1 f _ j h3 (by omega)).at' (by omega) (by omega)
theorem zd {one:Nat->PR (List Nd)} (h1:∀ i,i<=L.length->Gd L.length (i+1) i (one i)) {f:Nat} (hi:i<=L.length) (hf:L.length-i<=f) (h0:0<f):Gd L.length (i+1) i (gl L one f i):=by
 unfold gl;refine (h1 i hi).bind λ a j h2 h3=>?_;exact (Fb h1 f _ j h3 (by omega)).at' (by omega) (by omega)
theorem nO (h:i<=L.length):Gd L.length (i+1) i (iC L E i):=by
 unfold iC;refine .ite (λ c=>⟨cN _,bp c⟩) λ _=>.ite (λ c=>⟨cN _,bp c⟩) λ _=>.ite (λ c=>?_) λ _=>?_
 . have:=bp c;exact ((nV this).rq (lb':=i) (by omega)).bind λ a j h2 h3=>⟨by omega,h3⟩
 . refine (cD h).bind λ a j h2 h3=>?_;exact ((nV h3).rq (lb':=i) (by omega)).bind λ a j h2 h3=>⟨by omega,h3⟩
theorem uI {f:Nat} (h:i<=L.length) (hf:L.length<f):Gd L.length (i+1) i (mI L E f i):=by
 unfold mI;refine .ite (λ c=>?_) λ _=>nO h;have:=bp c;refine ((zd (λ i hi=>nO hi) this (by omega) (by omega)).rq (lb':=i) (by omega)).bind λ a j h2 h3=>?_;refine ((cD h3).rq (lb':=i) (by omega)).bind λ a j h4 h5=>?_;refine ((cD h5).rq (lb':=i) (by omega)).bind λ a j h6 h7=>?_;exact ((nO h7).rq (lb':=i) (by omega)).bind λ a j h8 h9=>⟨by omega,h9⟩
theorem CP {f:Nat} (h:i<=L.length) (hf:L.length<f):Gd L.length (i+1) i (iw L E f i):=by
 unfold iw;refine (jh h).bind λ a j h2 h3=>?_;refine ((cD h3).rq (lb':=i) (by omega)).bind λ a j h4 h5=>?_;exact ((uI h5 hf).rq (lb':=i) (by omega)).bind λ a j h8 h9=>⟨by omega,h9⟩
theorem ui (h:i<=L.length):Gd L.length (i+1) i (lS L E i):=by
 unfold lS;exact (jh h).bind λ a j h2 h3=>⟨h2,h3⟩
theorem Gd.step {lo1 lb1:Nat} {x:PR α} {f:α->Nat->PR β} (h:Gd n lo1 lb1 x) (hb:lb<=lb1) (k:∀ a j,lo1<=j->j<=n->Gd n CG lb (f a j)):Gd n CG lb (x.bind f):=(h.rq hb).bind k
theorem BE {lev:Nat} {k:Int} (h:oM L lev i=some k):i<L.length:=by
 unfold oM at h
 repeat' (split at h)
 all_goals first
  | (cases h; done)
  | exact bp ‹_›
theorem sN:∀ f:Nat,
 (∀ i,i<=L.length->40*(L.length-i)+11<=f->Gd L.length (i+1) i (fX L E f i)) /\
 (∀ i at_ acc many,i<=L.length->40*(L.length-i)+1<=f->Gd L.length i i (lQ L E f at_ acc many i)) /\
 (∀ i,i<=L.length->40*(L.length-i)+10<=f->Gd L.length (i+1) i (bU L E f i)) /\
 (∀ i lev,i<=L.length->lev<=9->40*(L.length-i)+(11-lev)<=f->Gd L.length (i+1) i (eT L E f lev i)) /\
 (∀ i lev left,i<=L.length->lev<=8->40*(L.length-i)+1<=f->Gd L.length i i (jS L E f lev left i)) /\
 (∀ i,i<=L.length->40*(L.length-i)+1<=f->Gd L.length (i+1) i (js L E f i)) /\
 (∀ i acc,i<=L.length->40*(L.length-i)+1<=f->Gd L.length i i (hY L E f acc i)) /\
 (∀ i,i<=L.length->40*(L.length-i)+12<=f->Gd L.length (i+1) i (iz L E f i)):=by
 intro f
 induction f with
 | zero=>refine⟨?_,?_,?_,?_,?_,?_,?_,?_⟩<;>intros<;>omega
 | succ f ih =>
   obtain⟨iT,iS,iF,iO,iP,iA,iG,iR⟩:=ih;refine⟨?_,?_,?_,?_,?_,?_,?_,?_⟩
   . intro i hi hf;rw[fX];refine (iF i hi (by omega)).bind λ a j h1 h2=>?_;exact (iS j _ _ _ h2 (by omega)).at' (by omega) (by omega)
   . intro i at_ acc many hi hf;rw[lQ];refine .ite (λ c=>?_) λ _=>⟨cN _,hi⟩;have h0:=bp c.1;refine (iF (i+1) (by omega) (by omega)).step (by omega) λ a j h1 h2=>?_;exact (iS j _ _ _ h2 (by omega)).at' (by omega) (by omega)
   . intro i hi hf;rw[bU];refine .ite (λ c=>?_) λ _=>.ite (λ c=>?_) λ _=>.ite (λ c=>?_) λ _=>.ite (λ c=>?_) λ _=>.ite (λ c=>?_) λ _=>.ite (λ c=>?_) λ _=>.ite (λ c=>?_) λ _=>?_
     . have h0:=bp c;refine (iF (i+1) (by omega) (by omega)).step (by omega) λ a j h1 h2=>(cD h2).step (by omega) λ a j h3 h4=>(iF j (by omega) (by omega)).step (by omega) λ a j h5 h6=>(cD h6).step (by omega) λ a j h7 h8=>(iF j (by omega) (by omega)).step (by omega) λ a j h9 jy=>⟨by omega,jy⟩
     . have h0:=bp c;exact (iF (i+1) (by omega) (by omega)).step (by omega) λ a j h1 h2=>(cD h2).step (by omega) λ a j h3 h4=>(iF j (by omega) (by omega)).step (by omega) λ a j h5 h6=>⟨by omega,h6⟩
     . have h0:=bp c;exact (jh h0).step (by omega) λ a j h1 h2=>(cD h2).step (by omega) λ a j h3 h4=>(nV h4).step (by omega) λ a j h5 h6=>(cD h6).step (by omega) λ a j h7 h8=>(nV h8).step (by omega) λ a j h9 jy=>(cD jy).step (by omega) λ a j nC qW=>(iF j (by omega) (by omega)).step (by omega) λ a j Q4 Eh=>⟨by omega,Eh⟩
     . have h0:=bp c;exact (jh h0).step (by omega) λ a j h1 h2=>(cD h2).step (by omega) λ a j h3 h4=>(iF j (by omega) (by omega)).step (by omega) λ a j h5 h6=>(cD h6).step (by omega) λ a j h7 h8=>(iF j (by omega) (by omega)).step (by omega) λ a j h9 jy=>⟨by omega,jy⟩
     . have h0:=bp c;exact (iF (i+1) (by omega) (by omega)).step (by omega) λ a j h1 h2=>(cD h2).step (by omega) λ a j h3 h4=>(iF j (by omega) (by omega)).step (by omega) λ a j h5 h6=>⟨by omega,h6⟩
     . have h0:=bp c;exact (jh h0).step (by omega) λ a j h1 h2=>(cD h2).step (by omega) λ a j h3 h4=>(nV h4).step (by omega) λ a j h5 h6=>(cD h6).step (by omega) λ a j h7 h8=>(iF j (by omega) (by omega)).step (by omega) λ a j h9 jy=>⟨by omega,jy⟩
     . have h0:=HJ c.1;exact (jh hi).step (by omega) λ a j h1 h2=>(cD h2).step (by omega) λ a j h3 h4=>(iF j (by omega) (by omega)).step (by omega) λ a j h5 h6=>⟨by omega,h6⟩
     . exact iO i 2 hi (by omega) (by omega)
   . intro i lev hi hl hf;rw[eT];refine .ite (λ c=>?_) λ c9=>.ite (λ c=>.ite (λ d=>?_) λ d=>?_) λ c4=>?_
     . exact iA i hi (by omega)
     . have h0:=bp d;exact (iO (i+1) 4 (by omega) (by omega) (by omega)).step (by omega) λ a j h1 h2=>⟨by omega,h2⟩
     . exact iO i 5 hi (by omega) (by omega)
     . refine (iO i (lev+1) hi (by omega) (by omega)).bind λ a j h1 h2=>?_;exact (iP j lev a h2 (by omega) (by omega)).at' (by omega) (by omega)
   . intro i lev left hi hl hf;rw[jS];split
     . exact⟨cN _,hi⟩
     . rename_i k hk;have h0:=BE hk;refine .ite (λ c=>?_) λ c=>?_
       . exact (nV h0).step (by omega) λ a j h1 h2=>(iP j lev _ h2 hl (by omega)).at' (by omega) (by omega)
       . refine (iO (i+1) (lev+1) h0 (by omega) (by omega)).step (by omega) λ a j h1 h2=>.ite (λ _=>⟨by omega,h2⟩) λ _=>?_;exact (iP j lev _ h2 hl (by omega)).at' (by omega) (by omega)
   . intro i hi hf;rw[js];refine .ite (λ c=>⟨cN _,bp c⟩) λ _=>.ite (λ c=>⟨cN _,bp c⟩) λ _=>.ite (λ c=>⟨cN _,bp c⟩) λ _=>.ite (λ c=>⟨cN _,bp c⟩) λ _=>.ite (λ c=>?_) λ _=>.ite (λ c=>?_) λ _=>.ite (λ c=>?_) λ _=>.ite (λ c=>?_) λ _=>?_
     . have h0:=bp c;exact (jh h0).step (by omega) λ a j h1 h2=>⟨by omega,h2⟩
     . have h0:=bp c;exact (jh h0).step (by omega) λ a j h1 h2=>⟨by omega,h2⟩
     . have h0:=bp c;exact (iT (i+1) (by omega) (by omega)).step (by omega) λ a j h1 h2=>(cD h2).step (by omega) λ a j h3 h4=>⟨by omega,h4⟩
     . exact (nV hi).step (by omega) λ a j h1 h2=>⟨by omega,h2⟩
     . refine (jh hi).step (by omega) λ a j h1 h2=>.ite (λ c=>?_) λ _=>⟨by omega,h2⟩;have h0:=bp c;exact (iR (j+1) (by omega) (by omega)).step (by omega) λ a j h3 h4=>(iG j _ h4 (by omega)).step (by omega) λ a j h5 h6=>(cD h6).step (by omega) λ a j h7 h8=>⟨by omega,h8⟩
   . intro i acc hi hf;rw[hY];refine .ite (λ c=>?_) λ _=>⟨cN _,hi⟩;have h0:=bp c;exact (iR (i+1) (by omega) (by omega)).step (by omega) λ a j h1 h2=>(iG j _ h2 (by omega)).at' (by omega) (by omega)
   . intro i hi hf;rw[iz];refine .ite (λ c=>?_) λ _=>.ite (λ c=>?_) λ _=>?_
     . have h0:=bp c;exact (cD h0).step (by omega) λ a j h1 h2=>(zd (λ i hi=>ui hi) h2 (by omega) (by omega)).step (by omega) λ a j h3 h4=>(cD h4).step (by omega) λ a j h5 h6=>(iF j (by omega) (by omega)).step (by omega) λ a j h7 h8=>⟨by omega,h8⟩
     . have h0:=bp c;exact (cD h0).step (by omega) λ a j h1 h2=>(iF j (by omega) (by omega)).step (by omega) λ a j h3 h4=>(cD h4).step (by omega) λ a j h5 h6=>(cD h6).step (by omega) λ a j h7 h8=>(ui h8).step (by omega) λ a j h9 jy=>(cD jy).step (by omega) λ a j nC qW=>(iF j (by omega) (by omega)).step (by omega) λ a j Q4 Eh=>(cD Eh).step (by omega) λ a j h15 Q5=>⟨by omega,Q5⟩
     . exact iT i hi (by omega)
theorem Py {f:Nat} (hi:i<=L.length) (hf:40*(L.length-i)+11<=f) (Rb:L.length<f):Gd L.length (i+1) i (eJ L E f i):=by
 unfold eJ;refine .ite (λ c=>?_) λ _=>?_
 . have h0:=bp c;exact (jh h0).step (by omega) λ a j h1 h2=>(cD h2).step (by omega) λ a j h3 h4=>(uI h4 Rb).step (by omega) λ a j h5 h6=>(cD h6).step (by omega) λ a j h7 h8=>⟨by omega,h8⟩
 . refine Gd.bind (lo:=i+1) (.ite (λ c=>⟨cN _,bp c⟩) λ _=>(cD hi).bind λ a j h1 h2=>⟨h1,h2⟩) λ k j h1 h2=>?_;refine (jh h2).step (by omega) λ a j h3 h4=>(cD h4).step (by omega) λ a j h5 h6=>?_;refine Gd.step (lo1:=j) (lb1:=j) (.ite (λ c=>⟨cN _,h6⟩) λ _=>(zd (λ i hi=>CP hi Rb) h6 (by omega) (by omega)).low (by omega)) (by omega) λ a j h7 h8=>?_;exact (cD h8).step (by omega) λ a j h9 jy=>(cD jy).step (by omega) λ a j nC qW=>(nO qW).step (by omega) λ a j Q4 Eh=>(cD Eh).step (by omega) λ a j h15 Q5=>((sN f).1 j Q5 (by omega)).step (by omega) λ a j h17 h18=>(cD h18).step (by omega) λ a j h19 h20=>⟨by omega,h20⟩
theorem kW (hi:i<=L.length):Gd L.length (i+1) i (eJ L E (fuel L) i):=Py hi (by unfold fuel; omega) (by unfold fuel; omega)
theorem Cy:∀ (f:Nat) (acc:List Nd) (i:Nat),i<=L.length->L.length-i<f->Gd L.length i i (gT L E f acc i)
 | 0,_,_,_,h=>by omega
 | f+1,acc,i,hi,hf=>by
   rw[gT];refine .ite (λ c=>?_) λ _=>⟨cN _,hi⟩;refine (kW hi).bind λ a j h1 h2=>?_;exact (Cy f _ j h2 (by omega)).at' (by omega) (by omega)
end
end Go.Rip
namespace Go.Rip
def jM (t:Tk):Prop:=t.s≠[]/\fg t.s=(0,t.k,t.s)
theorem tU (p:UInt8->Bool):∀ l:aT,(l.takeWhile p).takeWhile p=l.takeWhile p
 | []=>rfl
 | c::l=>by
   simp only[mj];cases h:p c with
   | true=>simp[h,tU p l]
   | false=>rfl
theorem FH:∀ x∈rL,fg x=(0,4,x)/\x≠[]:=by decide
theorem x8 {s:aT} {k:Nat} {t:aT} (h:fg s=(0,k,t)):jM ⟨k,t,0⟩/\t <+: s:=by
 have hid:=tU eh s;have sP:=Fw eh (l:=s);unfold fg at h;simp only at h;split at h
 . rename_i hw;split at h
   . rename_i x hx;simp only[fO,true_and]at h;obtain⟨rfl,rfl⟩:=h;have hm:=List.mem_of_find?_eq_some hx;have hp:=List.find?_some hx;exact⟨⟨(FH _ hm).2,(FH _ hm).1⟩,List.isPrefixOf_iff_prefix.1 hp⟩
   . simp at h
 . rename_i c r hw;have key:∀ {e:Int} {k:Nat},fg (s.takeWhile eh)=(e,k,s.takeWhile eh)->e=0->jM ⟨k,s.takeWhile eh,0⟩/\s.takeWhile eh <+: s:=λ h1 h2=>⟨⟨by simp[hw],by rw[h1,h2]⟩,sP⟩;split at h
   . rename_i hd;simp only[fO]at h;obtain⟨h1,rfl,rfl⟩:=h;refine key ?_ h1;unfold fg;simp only[hid];rw[hw];simp only[if_pos hd]
   . rename_i hd;split at h
     . simp at h
     . rename_i hs;split at h
       . rename_i hk;simp only[fO,true_and]at h;obtain⟨rfl,rfl⟩:=h;refine key ?_ rfl;unfold fg;simp only[hid];rw[hw]at hk ⊢;simp only[if_neg hd,if_neg hs,if_pos hk]
       . rename_i hk;split at h
         . simp at h
         . rename_i hl;simp only[fO,true_and]at h;obtain⟨rfl,rfl⟩:=h;refine key ?_ rfl;unfold fg;simp only[hid];rw[hw]at hk hl ⊢;simp only[if_neg hd,if_neg hs,if_neg hk,if_neg hl]
theorem xQ:∀ (f:Nat) (s:aT) (p:Nat) (l:List Tk) {L:List Tk},dE f s p l=.ok L->(∀ t∈l,jM t)->l.length<=900->(∀ t∈L,jM t)/\L.length<=900
 | 0,s,p,l,L,h,hl,hn=>by simp only[dE,uf.ok.injEq]at h; subst h; exact⟨hl,hn⟩
 | f+1,s,p,l,L,h,hl,hn=>by
   simp only[dE]at h;split at h
   . simp only[uf.ok.injEq]at h; subst h; exact⟨hl,hn⟩
   . split at h
     . exact xQ f s _ l h hl hn
     . split at h
       . exact xQ f s _ l h hl hn
       . split at h
         . cases h
         . rename_i he;split at h
           . cases h
           . rename_i hc;refine xQ f s _ _ h (λ t ht=>?_) (by simp; omega);simp only[fN,lN]at ht;rcases ht with ht|rfl
             . exact hl t ht
             . have jV:(fg _).1=0:=Decidable.not_not.1 he;exact (x8 (Prod.ext jV rfl)).1
theorem oo {s:aT} {L:List Tk} (h:eA s=.ok L):(∀ t∈L,jM t)/\L.length<=900:=by
 unfold eA at h;split at h;split at h
 . cases h
 . exact xQ _ _ _ _ h (by simp) (by simp)
end Go.Rip
namespace Go.Rip
def iI (a:Int) (s:aT):Int:=s.foldl (λ n c=>min (10*n+((c.toNat:Int)-48)) 1000001) a
def yZ (a:Int) (s:aT):Int:=s.foldl (λ n c=>10*n+((c.toNat:Int)-48)) a
theorem mc {c:UInt8}:gD c=true↔48<=c.toNat/\c.toNat<=57:=by simp[gD]
theorem HT:∀ (s:aT) (a:Int),a<=1000001->iI a s<=1000001
 | [],a,h=>h
 | c::s,a,h=>HT s (min (10*a+((c.toNat:Int)-48)) 1000001) (by omega)
theorem tK:∀ (s:aT) (a:Int),s.all gD=true->0<=a->min a 1000001<=iI a s
 | [],a,_,h=>by simp[iI]; omega
 | c::s,a,hd,h=>by
   simp only[List.all_cons,bV]at hd;have h1:=mc.1 hd.1;have:=tK s (min (10*a+((c.toNat:Int)-48)) 1000001) hd.2 (by omega);have e:iI a (c::s)=iI (min (10*a+((c.toNat:Int)-48)) 1000001) s:=rfl;omega
theorem CM:∀ (s:aT) (a:Int),s.all gD=true->0<=a->iI a s<=1000000->iI a s=yZ a s
 | [],a,_,_,_=>rfl
 | c::s,a,hd,h,hl=>by
   simp only[List.all_cons,bV]at hd;have h1:=mc.1 hd.1;have e:iI a (c::s)=iI (min (10*a+((c.toNat:Int)-48)) 1000001) s:=rfl;have e2:yZ a (c::s)=yZ (10*a+((c.toNat:Int)-48)) s:=rfl;have hg:=tK s (min (10*a+((c.toNat:Int)-48)) 1000001) hd.2 (by omega);have hm:min (10*a+((c.toNat:Int)-48)) 1000001=10*a+((c.toNat:Int)-48):=by omega
   rw[hm]at e;rw[e,e2];exact CM s _ hd.2 (by omega) (by omega)
theorem Fh:∀ (s:aT) (a:Int),s.all gD=true->1<=a->iI a s<=1000000->10 ^ s.length*a<=iI a s
 | [],a,_,_,_=>by simp[iI]
 | c::s,a,hd,h,hl=>by
   simp only[List.all_cons,bV]at hd;have h1:=mc.1 hd.1;have e:iI a (c::s)=iI (min (10*a+((c.toNat:Int)-48)) 1000001) s:=rfl;have hg:=tK s (min (10*a+((c.toNat:Int)-48)) 1000001) hd.2 (by omega);have hm:min (10*a+((c.toNat:Int)-48)) 1000001=10*a+((c.toNat:Int)-48):=by omega
   rw[hm]at e;rw[e]at hl ⊢;have:=Fh s _ hd.2 (by omega) hl;have hp:(0:Int)<10 ^ s.length:=Int.pow_pos (by omega);have:10 ^ s.length*(10*a)<=10 ^ s.length*(10*a+((c.toNat:Int)-48)):=Int.mul_le_mul_of_nonneg_left (by omega) (by omega);rw[lM,Int.pow_succ,Int.mul_assoc];omega
theorem HS {s:aT} (h:nU s=0):s.all gD=true/\¬ (1<s.length/\s.head?=some 48)/\Fi s<=1000000:=by
 unfold nU at h;split at h
 . cases h
 . rename_i h1;split at h
   . cases h
   . rename_i h2;split at h
     . cases h
     . rename_i h3; exact⟨by simpa using h1,h2,by omega⟩
theorem CN {s:aT} (h0:s≠[]) (h:nU s=0):1<=s.length/\s.length<=7/\Fi s=uo s/\0<=uo s/\uo s<=1000000:=by
 obtain⟨h1,h2,h3⟩:=HS h;have hv:Fi s=iI 0 s:=rfl;have hd:uo s=yZ 0 s:=rfl;have e:=CM s 0 h1 (by omega) (by omega);have hg:=tK s 0 h1 (by omega);refine⟨?_,?_,by omega,by omega,by omega⟩
 . cases s with
   | nil=>exact absurd rfl h0
   | cons c s=>simp
 . cases s with
   | nil=>simp
   | cons c s =>
     simp only[List.all_cons,bV]at h1;have hc:=mc.1 h1.1;rcases gI s.length 1 with hl|hl
     . simp; omega
     . have Ho:c≠48:=λ e=>h2 ⟨by simp; omega,by simp[e]⟩;have zZ:c.toNat≠48:=λ e=>Ho (by apply UInt8.toNat_inj.1; simpa using e);have e1:iI 0 (c::s)=iI ((c.toNat:Int)-48) s:=by
        show iI (min (10*0+((c.toNat:Int)-48)) 1000001) s=_;congr 1; omega
       have hlen:=Fh s ((c.toNat:Int)-48) h1.2 (by omega) (by omega);rcases gI s.length 7 with hl|hl
       . simp; omega
       . exfalso;have h7:(10:Int) ^ 7<=10 ^ s.length:=by
          have:=Nat.pow_le_pow_right (n:=10) (by omega) hl
          exact_mod_cast this
         have:(10:Int) ^ s.length*1<=10 ^ s.length*((c.toNat:Int)-48):=Int.mul_le_mul_of_nonneg_left (by omega) (by omega);omega
theorem Qw {s:aT} (h:fg s=(0,2,s)) (h0:s≠[]):nU s=0:=by
 unfold fg at h;simp only at h;split at h
 . split at h<;>simp at h
 . rename_i c r hw;split at h
   . simp only[fO,true_and]at h;rw[h.2]at h; exact h.1
   . split at h
     . simp at h
     . split at h
       . simp at h
       . split at h<;>simp at h
theorem HU {t:Tk} (h:jM t) (hk:t.k=2):nU t.s=0:=Qw (by rw[h.2,hk]) h.1
theorem yl:∀ (s:aT) (a:Nat),s.all gD=true->∃ m,Lib.decFrom a s=some m/\(m:Int)=yZ a s
 | [],a,_=>⟨a,rfl,rfl⟩
 | c::s,a,h=>by
   simp only[List.all_cons,bV]at h;have hc:=mc.1 h.1;obtain⟨m,h1,h2⟩:=yl s (a*10+(c.toNat-48)) h.2;refine⟨m,?_,?_⟩
   . simp only[Lib.decFrom,Lib.digitVal,if_pos hc]; exact h1
   . rw[h2];show yZ _ s=yZ (10*(a:Int)+((c.toNat:Int)-48)) s;congr 1; omega
theorem OP {s:aT} (h0:s≠[]) (h:s.all gD=true):Lib.atoi s=some (uo s):=by
 cases s with
 | nil=>exact absurd rfl h0
 | cons c s =>
   have h':=h;simp only[List.all_cons,bV]at h';have hc:=mc.1 h'.1;obtain⟨m,h1,h2⟩:=yl (c::s) 0 h;have c45:(c==45)=false:=by simp; rintro rfl; simp at hc
   have c43:(c==43)=false:=by simp; rintro rfl; simp at hc
   simp only[Lib.atoi,c45,c43,bQ,if_false,Lib.decNat,List.isEmpty_cons,h1,Option.map_some,fZ];exact h2
end Go.Rip
namespace Go.Rip
theorem sB {s:aT} {k:Nat} {t:aT} (h:fg s=(0,k,t)):(k=1/\t∉ph/\t.length<=12/\(∃ c r,t=c::r/\oH c=true)/\t.all eh=true)\/(k=2/\∃ c r,t=c::r/\gD c=true)\/(k=3/\t∈ph)\/(k=4/\t∈rL):=by
 have b0:(s.takeWhile eh).all eh=true:=by
  rw[eH]; intro x hx;have:∀ l:aT,x∈l.takeWhile eh->eh x=true:=λ l=>by
   induction l with
   | nil=>simp
   | cons c l ih =>
     simp only[mj];split
     . rename_i hc;intro h;rcases fe.1 h with rfl|h
       . exact hc
       . exact ih h
     . simp
  exact this s hx
 unfold fg at h;simp only at h;split at h
 . split at h
   . rename_i x hx;simp only[fO,true_and]at h;obtain⟨rfl,rfl⟩:=h;exact .inr (.inr (.inr ⟨rfl,List.mem_of_find?_eq_some hx⟩))
   . simp at h
 . rename_i c r hw;split at h
   . rename_i hd;simp only[fO]at h;obtain⟨h1,rfl,rfl⟩:=h;exact .inr (.inl ⟨rfl,c,r,hw,hd⟩)
   . split at h
     . simp at h
     . rename_i hs;split at h
       . rename_i hk;simp only[fO,true_and]at h;obtain⟨rfl,rfl⟩:=h;exact .inr (.inr (.inl ⟨rfl,hk⟩))
       . rename_i hk;split at h
         . simp at h
         . rename_i hl;simp only[fO,true_and]at h;obtain⟨rfl,rfl⟩:=h;exact .inl ⟨rfl,hk,by omega,⟨c,r,hw,by simpa using hs⟩,b0⟩
theorem jM.cases {t:Tk} (h:jM t):(t.k=1/\t.s∉ph)\/t.k=2\/(t.k=3/\t.s∈ph)\/(t.k=4/\t.s∈rL):=by
 rcases sB h.2 with h|h|h|h
 . exact .inl ⟨h.1,h.2.1⟩
 . exact .inr (.inl h.1)
 . exact .inr (.inr (.inl h))
 . exact .inr (.inr (.inr h))
theorem Js:∀ w∈ph,w∉rL:=by decide
theorem wE {L:List Tk} {i:Nat} {w:aT} (h:bB L i w=true):∃ t,L[i]?=some t/\(t.k=3\/t.k=4)/\t.s=w:=by
 unfold bB at h;split at h
 . rename_i t ht;simp only[bV,gX,beq_iff_eq]at h;exact⟨t,ht,h.1,h.2⟩
 . cases h
theorem SZ {L:List Tk} {i:Nat} {w:aT} {t:Tk} (ht:L[i]?=some t) (hk:t.k=3\/t.k=4) (hs:t.s=w):bB L i w=true:=by
 unfold bB; rw[ht]; simp[hs,hk]
theorem SY {L:List Tk} (hL:∀ t∈L,jM t) {i:Nat} {w:aT} (hw:w∈ph) (h:bB L i w=true):∃ t,L[i]?=some t/\t.k=3/\t.s=w:=by
 obtain⟨t,ht,hk,hs⟩:=wE h;refine⟨t,ht,?_,hs⟩;rcases hk with hk|hk
 . exact hk
 . rcases (hL t (gA ht)).cases with h|h|h|h
   . omega
   . omega
   . omega
   . rw[hs]at h; exact absurd h.2 (Js w hw)
def pv (o:Option Tk):aT:=match o with|some t=>if t.k=3\/t.k=4 then t.s else []|none=>[]
theorem Cw {L:List Tk} {i:Nat} {w:aT} (hw:w≠[]):bB L i w=decide (pv L[i]?=w):=by
 unfold bB pv;split
 . rename_i t ht
   by_cases h:t.k=3\/t.k=4
   . by_cases hs:t.s=w<;>simp[ht,h,hs]
   . have h3:¬ t.k=3:=λ e=>h (.inl e);have h4:¬ t.k=4:=λ e=>h (.inr e);simp[ht,h3,h4,Ne.symm hw]
 . rename_i ht; simp[ht,Ne.symm hw]
end Go.Rip
namespace Go.Rip
theorem PR.al {α β:Type} {x:PR α} {f:α->Nat->PR β} {b:β} {j:Nat} (h:x.bind f=.ok b j):∃ a i,x=.ok a i/\f a i=.ok b j:=by
 cases x with
 | ok a i=>exact⟨a,i,rfl,h⟩
 | bad i=>cases h
 | out=>cases h
theorem PR.bg {α:Type} {a b:α} {i j:Nat} (h:PR.ok a i=PR.ok b j):a=b/\i=j:=by cases h; exact⟨rfl,rfl⟩
theorem cx {L:List Tk} {w:aT} {i j:Nat} {u:Unit} (h:bq L w i=.ok u j):j=i+1:=by
 unfold bq at h; split at h<;>cases h; rfl
theorem il {L:List Tk} {i j:Nat} {u:aT} (h:eK L i=.ok u j):j=i+1:=by
 unfold eK at h; split at h
 . split at h<;>cases h; rfl
 . cases h
theorem mg {L:List Tk} {i j:Nat} {u:Int} (h:fW L i=.ok u j):j=i+1:=by
 unfold fW at h; split at h
 . split at h<;>cases h; rfl
 . cases h
theorem bH (k:Int) (t:aT) (n m a:Int) (l:List Nd):(node k t n m a l).length=l.length+1:=rfl
section
variable {L:List Tk} {E:Nat}
theorem rV {i j:Nat} {ns:List Nd} (h:iC L E i=.ok ns j):ns.length+i<=j:=by
 unfold iC at h;split at h
 . obtain⟨rfl,rfl⟩:=PR.bg h; simp[bH]; omega
 . split at h
   . obtain⟨rfl,rfl⟩:=PR.bg h; simp[bH]; omega
   . split at h
     . obtain⟨_,_,h1,h⟩:=PR.al h;have:=mg h1;obtain⟨rfl,rfl⟩:=PR.bg h; simp[bH]; omega
     . obtain⟨_,_,h1,h⟩:=PR.al h;obtain⟨_,_,h2,h⟩:=PR.al h;have:=cx h1; have:=mg h2;obtain⟨rfl,rfl⟩:=PR.bg h; simp[bH]; omega
theorem B3 {i j:Nat} {ns:List Nd} (h:lS L E i=.ok ns j):ns.length+i<=j:=by
 unfold lS at h;obtain⟨_,_,h1,h⟩:=PR.al h;have:=il h1;obtain⟨rfl,rfl⟩:=PR.bg h; simp[bH]; omega
theorem CJ {one:Nat->PR (List Nd)} (h1:∀ {i j ns},one i=.ok ns j->ns.length+i<=j):∀ (f:Nat) (acc:List Nd) (i:Nat) {j:Nat} {ns:List Nd},j6 L one f acc i=.ok ns j->ns.length+i<=j+acc.length
 | 0,_,_,_,_,h=>by cases h
 | f+1,acc,i,j,ns,h=>by
   unfold j6 at h;split at h
   . obtain⟨_,_,h2,h⟩:=PR.al h;have:=h1 h2;have:=CJ h1 f _ _ h;simp at this; omega
   . obtain⟨rfl,rfl⟩:=PR.bg h; omega
theorem wH {one:Nat->PR (List Nd)} (h1:∀ {i j ns},one i=.ok ns j->ns.length+i<=j) {f i j:Nat} {ns:List Nd} (h:gl L one f i=.ok ns j):ns.length+i<=j:=by
 unfold gl at h;obtain⟨_,_,h2,h⟩:=PR.al h;have:=h1 h2;have:=CJ h1 f _ _ h;omega
theorem CF {f i j:Nat} {ns:List Nd} (h:mI L E f i=.ok ns j):ns.length+i<=j:=by
 unfold mI at h;split at h
 . obtain⟨_,_,h1,h⟩:=PR.al h;obtain⟨_,_,h2,h⟩:=PR.al h;obtain⟨_,_,h3,h⟩:=PR.al h;obtain⟨_,_,h4,h⟩:=PR.al h;have:=wH (λ h=>rV h) h1; have:=cx h2; have:=cx h3; have:=rV h4;obtain⟨rfl,rfl⟩:=PR.bg h; simp[bH]; omega
 . exact rV h
theorem JJ {f i j:Nat} {ns:List Nd} (h:iw L E f i=.ok ns j):ns.length+i<=j:=by
 unfold iw at h;obtain⟨_,_,h1,h⟩:=PR.al h;obtain⟨_,_,h2,h⟩:=PR.al h;obtain⟨_,_,h3,h⟩:=PR.al h;have:=il h1; have:=cx h2; have:=CF h3;obtain⟨rfl,rfl⟩:=PR.bg h; simp[bH]; omega
theorem Pa:∀ f:Nat,
 (∀ {i j ns},fX L E f i=.ok ns j->ns.length+i<=j) /\
 (∀ {i at_ acc many j ns},lQ L E f at_ acc many i=.ok ns j->ns.length+i<=j+acc.length+(if many=1 then 0 else 1)) /\
 (∀ {i j ns},bU L E f i=.ok ns j->ns.length+i<=j) /\
 (∀ {i lev j ns},eT L E f lev i=.ok ns j->ns.length+i<=j) /\
 (∀ {i lev left j ns},jS L E f lev left i=.ok ns j->ns.length+i<=j+left.length) /\
 (∀ {i j ns},js L E f i=.ok ns j->ns.length+i<=j) /\
 (∀ {i acc j ns},hY L E f acc i=.ok ns j->ns.length+i<=j+acc.length) /\
 (∀ {i j ns},iz L E f i=.ok ns j->ns.length+i<=j):=by
 intro f
 induction f with
 | zero=>refine⟨?_,?_,?_,?_,?_,?_,?_,?_⟩<;>(intros; rename_i h; first|(rw[fX]at h; cases h; done)|(rw[lQ]at h; cases h; done)|(rw[bU]at h; cases h; done)|(rw[eT]at h; cases h; done)|(rw[jS]at h; cases h; done)|(rw[js]at h; cases h; done)|(rw[hY]at h; cases h; done)|(rw[iz]at h; cases h; done))
 | succ f ih =>
   obtain⟨iT,iS,iF,iO,iP,iA,iG,iR⟩:=ih;refine⟨?_,?_,?_,?_,?_,?_,?_,?_⟩
   . intro i j ns h;rw[fX]at h;obtain⟨_,_,h1,h⟩:=PR.al h;have:=iF h1; have:=iS h;simp at this; omega
   . intro i at_ acc many j ns h;rw[lQ]at h;split at h
     . obtain⟨_,_,h1,h⟩:=PR.al h;have:=iF h1; have:=iS h;simp only[eG]at this;split at this<;>split<;>omega
     . obtain⟨rfl,rfl⟩:=PR.bg h;split<;>simp[bH]<;>omega
   . intro i j ns h;rw[bU]at h;split at h
     . obtain⟨_,_,h1,h⟩:=PR.al h;obtain⟨_,_,h2,h⟩:=PR.al h;obtain⟨_,_,h3,h⟩:=PR.al h;obtain⟨_,_,h4,h⟩:=PR.al h;obtain⟨_,_,h5,h⟩:=PR.al h;have:=iF h1; have:=cx h2; have:=iF h3; have:=cx h4; have:=iF h5;obtain⟨rfl,rfl⟩:=PR.bg h; simp[bH]; omega
     split at h
     . obtain⟨_,_,h1,h⟩:=PR.al h;obtain⟨_,_,h2,h⟩:=PR.al h;obtain⟨_,_,h3,h⟩:=PR.al h;have:=iF h1; have:=cx h2; have:=iF h3;obtain⟨rfl,rfl⟩:=PR.bg h; simp[bH]; omega
     split at h
     . obtain⟨_,_,h1,h⟩:=PR.al h;obtain⟨_,_,h2,h⟩:=PR.al h;obtain⟨_,_,h3,h⟩:=PR.al h;obtain⟨_,_,h4,h⟩:=PR.al h;obtain⟨_,_,h5,h⟩:=PR.al h;obtain⟨_,_,h6,h⟩:=PR.al h;obtain⟨_,_,h7,h⟩:=PR.al h;have:=il h1; have:=cx h2; have:=mg h3; have:=cx h4; have:=mg h5; have:=cx h6; have:=iF h7;obtain⟨rfl,rfl⟩:=PR.bg h; simp[bH]; omega
     split at h
     . obtain⟨_,_,h1,h⟩:=PR.al h;obtain⟨_,_,h2,h⟩:=PR.al h;obtain⟨_,_,h3,h⟩:=PR.al h;obtain⟨_,_,h4,h⟩:=PR.al h;obtain⟨_,_,h5,h⟩:=PR.al h;have:=il h1; have:=cx h2; have:=iF h3; have:=cx h4; have:=iF h5;obtain⟨rfl,rfl⟩:=PR.bg h; simp[bH]; omega
     split at h
     . obtain⟨_,_,h1,h⟩:=PR.al h;obtain⟨_,_,h2,h⟩:=PR.al h;obtain⟨_,_,h3,h⟩:=PR.al h;have:=iF h1; have:=cx h2; have:=iF h3;obtain⟨rfl,rfl⟩:=PR.bg h; simp[bH]; omega
     split at h
     . obtain⟨_,_,h1,h⟩:=PR.al h;obtain⟨_,_,h2,h⟩:=PR.al h;obtain⟨_,_,h3,h⟩:=PR.al h;obtain⟨_,_,h4,h⟩:=PR.al h;obtain⟨_,_,h5,h⟩:=PR.al h;have:=il h1; have:=cx h2; have:=mg h3; have:=cx h4; have:=iF h5;obtain⟨rfl,rfl⟩:=PR.bg h; simp[bH]; omega
     split at h
     . obtain⟨_,_,h1,h⟩:=PR.al h;obtain⟨_,_,h2,h⟩:=PR.al h;obtain⟨_,_,h3,h⟩:=PR.al h;have:=il h1; have:=cx h2; have:=iF h3;obtain⟨rfl,rfl⟩:=PR.bg h; simp[bH]; omega
     . exact iO h
   . intro i lev j ns h;rw[eT]at h;split at h
     . exact iA h
     split at h
     . split at h
       . obtain⟨_,_,h1,h⟩:=PR.al h;have:=iO h1;obtain⟨rfl,rfl⟩:=PR.bg h; simp[bH]; omega
       . exact iO h
     . obtain⟨_,_,h1,h⟩:=PR.al h;have:=iO h1; have:=iP h;omega
   . intro i lev left j ns h;rw[jS]at h;split at h
     . obtain⟨rfl,rfl⟩:=PR.bg h; omega
     split at h
     . obtain⟨_,_,h1,h⟩:=PR.al h;have:=mg h1; have:=iP h;simp[bH]at this; omega
     . obtain⟨_,_,h1,h⟩:=PR.al h;have:=iO h1;split at h
       . obtain⟨rfl,rfl⟩:=PR.bg h; simp[bH]; omega
       . have:=iP h;simp[bH]at this; omega
   . intro i j ns h;rw[js]at h;split at h
     . obtain⟨rfl,rfl⟩:=PR.bg h; simp[bH]; omega
     split at h
     . obtain⟨rfl,rfl⟩:=PR.bg h; simp[bH]; omega
     split at h
     . obtain⟨rfl,rfl⟩:=PR.bg h; simp[bH]; omega
     split at h
     . obtain⟨rfl,rfl⟩:=PR.bg h; simp[bH]; omega
     split at h
     . obtain⟨_,_,h1,h⟩:=PR.al h;have:=il h1;obtain⟨rfl,rfl⟩:=PR.bg h; simp[bH]; omega
     split at h
     . obtain⟨_,_,h1,h⟩:=PR.al h;have:=il h1;obtain⟨rfl,rfl⟩:=PR.bg h; simp[bH]; omega
     split at h
     . obtain⟨_,_,h1,h⟩:=PR.al h;obtain⟨_,_,h2,h⟩:=PR.al h;have:=iT h1; have:=cx h2;obtain⟨rfl,rfl⟩:=PR.bg h; omega
     split at h
     . obtain⟨_,_,h1,h⟩:=PR.al h;have:=mg h1;obtain⟨rfl,rfl⟩:=PR.bg h; simp[bH]; omega
     . obtain⟨_,_,h1,h⟩:=PR.al h;have:=il h1;split at h
       . obtain⟨_,_,h2,h⟩:=PR.al h;obtain⟨_,_,h3,h⟩:=PR.al h;obtain⟨_,_,h4,h⟩:=PR.al h;have:=iR h2; have:=iG h3; have:=cx h4;obtain⟨rfl,rfl⟩:=PR.bg h; simp[bH]; omega
       . obtain⟨rfl,rfl⟩:=PR.bg h; simp[bH]; omega
   . intro i acc j ns h;rw[hY]at h;split at h
     . obtain⟨_,_,h1,h⟩:=PR.al h;have:=iR h1; have:=iG h;simp at this; omega
     . obtain⟨rfl,rfl⟩:=PR.bg h; omega
   . intro i j ns h;rw[iz]at h;split at h
     . obtain⟨_,_,h1,h⟩:=PR.al h;obtain⟨_,_,h2,h⟩:=PR.al h;obtain⟨_,_,h3,h⟩:=PR.al h;obtain⟨_,_,h4,h⟩:=PR.al h;have:=cx h1; have:=wH (λ h=>B3 h) h2; have:=cx h3; have:=iF h4;obtain⟨rfl,rfl⟩:=PR.bg h; simp[bH]; omega
     split at h
     . obtain⟨_,_,h1,h⟩:=PR.al h;obtain⟨_,_,h2,h⟩:=PR.al h;obtain⟨_,_,h3,h⟩:=PR.al h;obtain⟨_,_,h4,h⟩:=PR.al h;obtain⟨_,_,h5,h⟩:=PR.al h;obtain⟨_,_,h6,h⟩:=PR.al h;obtain⟨_,_,h7,h⟩:=PR.al h;obtain⟨_,_,h8,h⟩:=PR.al h;have:=cx h1; have:=iF h2; have:=cx h3; have:=cx h4; have:=B3 h5; have:=cx h6; have:=iF h7; have:=cx h8;obtain⟨rfl,rfl⟩:=PR.bg h; simp[bH]; omega
     . exact iT h
theorem Cx {f i j:Nat} {ns:List Nd} (h:eJ L E f i=.ok ns j):ns.length+i<=j:=by
 unfold eJ at h;split at h
 . obtain⟨_,_,h1,h⟩:=PR.al h;obtain⟨_,_,h2,h⟩:=PR.al h;obtain⟨_,_,h3,h⟩:=PR.al h;obtain⟨_,_,h4,h⟩:=PR.al h;have:=il h1; have:=cx h2; have:=CF h3; have:=cx h4;obtain⟨rfl,rfl⟩:=PR.bg h; simp[bH]; omega
 . obtain⟨k,p,h0,h⟩:=PR.al h;obtain⟨_,_,h1,h⟩:=PR.al h;obtain⟨_,_,h2,h⟩:=PR.al h;obtain⟨_,_,h3,h⟩:=PR.al h;obtain⟨_,_,h4,h⟩:=PR.al h;obtain⟨_,_,h5,h⟩:=PR.al h;obtain⟨_,_,h6,h⟩:=PR.al h;obtain⟨_,_,h7,h⟩:=PR.al h;obtain⟨_,_,h8,h⟩:=PR.al h;obtain⟨_,_,h9,h⟩:=PR.al h;have hp:p=i+1:=by
    split at h0
    . exact (PR.bg h0).2.symm
    . obtain⟨_,_,g1,g2⟩:=PR.al h0;have:=cx g1;have:=(PR.bg g2).2;omega
   have Vm:∀ {a:List Nd} {j q:Nat},(if bB L j gE=true then (PR.ok [] j:PR (List Nd)) else gl L (iw L E f) f j)=.ok a q->a.length+j<=q:=λ h=>by
    split at h
    . obtain⟨rfl,rfl⟩:=PR.bg h; simp
    . exact wH (λ h=>JJ h) h
   have:=il h1; have:=cx h2; have:=Vm h3; have:=cx h4; have:=cx h5; have:=rV h6; have:=cx h7; have:=(Pa f).1 h8; have:=cx h9;obtain⟨rfl,rfl⟩:=PR.bg h; simp[bH]; omega
end
end Go.Rip
