/- Lemmas for the proof: no conditions. -/
import Derived.Test.YtnfpmiiopiinbaaGreatDoorRipZz
import Derived.Test.YtnfpmiiopiinbaaGreatDoorRipD
import Derived.Lib.Atoi
set_option linter.unusedVariables false
set_option linter.unusedSimpArgs false
set_option linter.loopingSimpArgs false
namespace Go.Rip
abbrev aG:=List UInt8
structure Tk where
 k:Nat
 s:aG
 at_:Nat
 deriving DecidableEq
structure Nd where
 kind:Int
 text:aG
 n:Int
 m:Int
 at_:Int
 size:Int
 deriving DecidableEq
def gd (c:UInt8):Bool:=decide (48 <= c.toNat/\c.toNat <= 57)
def lT (c:UInt8):Bool:=decide (97 <= c.toNat/\c.toNat <= 122)
def G0 (c:UInt8):Bool:=decide (65 <= c.toNat/\c.toNat <= 90)
def c8 (c:UInt8):Bool:=gd c || lT c || G0 c
def lS (c:UInt8):Bool:=decide (c.toNat=10\/32 <= c.toNat/\c.toNat <= 126)
def Jh (s:aG):Int:=s.foldl (fun n c=>min (10 * n+((c.toNat:Int) - 48)) 1000001) 0
def sd (s:aG):Int:=s.foldl (fun n c=>10 * n+((c.toNat:Int) - 48)) 0
def oW (s:aG):Int:=if s.all gd=false then 4 else if 1 < s.length/\s.head?=some 48 then 4 else if 1000000 < Jh s then 3 else 0
def k0:List aG:=[yD,tu,kT,jR,gH,pb,fH,rP,eG,dz,dB,qF,vI,gK,ox,dI,jJ,gy,jS,il,lh,pK,ig,agz,CA,vJ,fB,nP,dy,fX]
def iN:List aG:=[bL,fF,gk,sO,sN,rO,tT,lZ,cB,cg,nf,qq,cw,cn,cW,tU]
def ic (s:aG):Int × Nat × aG :=
 let w:=s.takeWhile c8
 match w with
 | []=>match iN.find? fun x=>x.isPrefixOf s with
   | some x=>(0,4,x)
   | none=>(4,0,[])
 | c::_=>if gd c then (oW w,2,w) else if lT c=false then (4,0,[]) else if w ∈ k0 then (0,3,w) else if 12 < w.length then (4,0,[]) else (0,1,w)
inductive xv where
 | ok (l:List Tk)
 | bad (p:Nat) (e:Int)
def eT:Nat->aG->Nat->List Tk->xv
 | 0,_,_,l=>.ok l
 | f+1,s,p,l=>match s.drop p with
   | []=>.ok l
   | c::r=>if c.toNat=32\/c.toNat=10 then eT f s (p+1) l
     else if c.toNat=126 then eT f s (p+((c::r).takeWhile fun c=>c.toNat ≠ 10).length) l
     else match ic (c::r) with
      | (e,k,t)=>if e ≠ 0 then .bad p e else if l.length=900 then .bad p 5 else eT f s (p+t.length) (l++[⟨k,t,p⟩])
def sb (s:aG):Nat × Int:=if 2500 < s.length then (0,5) else match s.findIdx? (fun c=>!lS c) with | some i=>(i,2) | none=>(0,0)
def iM (s:aG):xv:=match sb s with
 | (p,e)=>if e ≠ 0 then .bad p e else eT s.length s 0 []
inductive PR (α:Type) where
 | ok (a:α) (i:Nat)
 | bad (i:Nat)
 | out
def PR.bind {α β:Type} (x:PR α) (f:α->Nat->PR β):PR β:=match x with
 | .ok a i=>f a i
 | .bad i=>.bad i
 | .out=>.out
def node (kind:Int) (text:aG) (n m at_:Int) (kids:List Nd):List Nd:=⟨kind,text,n,m,at_,(kids.length:Int)+1⟩::kids
section
variable (L:List Tk) (E:Nat)
def dc (i:Nat):Int:=match L[i]? with | some t=>t.at_ | none=>E
def bf (i:Nat) (w:aG):Bool:=match L[i]? with | some t=>(t.k == 3 || t.k == 4) && t.s == w | none=>false
def qy (i:Nat) (k:Nat):Bool:=match L[i]? with | some t=>t.k == k | none=>false
def tn (i:Nat):Bool:=bf L i dI || bf L i fH || bf L i dz
def bI (w:aG) (i:Nat):PR Unit:=if bf L i w=true then .ok () (i+1) else .bad i
def gx (i:Nat):PR aG:=match L[i]? with | some t=>if t.k=1 then .ok t.s (i+1) else .bad i | none=>.bad i
def iC (i:Nat):PR Int:=match L[i]? with | some t=>if t.k=2 then .ok (sd t.s) (i+1) else .bad i | none=>.bad i
def lV (one:Nat->PR (List Nd)):Nat->List Nd->Nat->PR (List Nd)
 | 0,_,_=>.out
 | f+1,acc,i=>if bf L i cw=true then (one (i+1)).bind fun b j=>lV one f (acc++b) j else .ok acc i
def ju (one:Nat->PR (List Nd)) (f:Nat) (i:Nat):PR (List Nd):=(one i).bind fun a j=>lV L one f a j
def fM (i:Nat):PR (List Nd) :=
 if bf L i pb=true then .ok (node 6 [] 1 0 (dc L E i) []) (i+1)
 else if bf L i kT=true then .ok (node 6 [] 2 0 (dc L E i) []) (i+1)
 else if bf L i jR=true then (iC L (i+1)).bind fun n j=>.ok (node 7 [] n 0 (dc L E i) []) j
 else (bI L gy i).bind fun _ j=>(iC L j).bind fun n j=>.ok (node 6 [] n 0 (dc L E i) []) j
def jh (f:Nat) (i:Nat):PR (List Nd) :=
 if bf L i cB=true then (ju L (fM L E) f (i+1)).bind fun a j=>(bI L cg j).bind fun _ j=>(bI L fF j).bind fun _ j=>(fM L E j).bind fun b j=>.ok (node 8 [] 0 0 (dc L E i) (a++b)) j
 else fM L E i
def jx (f:Nat) (i:Nat):PR (List Nd):=(gx L i).bind fun x j=>(bI L cW j).bind fun _ j=>(jh L E f j).bind fun a j=>.ok (node 5 x 0 0 (dc L E i) a) j
def kW (i:Nat):PR (List Nd):=(gx L i).bind fun x j=>.ok (node 37 x 0 0 (dc L E i) []) j
def nD (lev:Nat) (i:Nat):Option Int :=
 if lev=2 then if bf L i CA=true then some 17 else none
 else if lev=3 then if bf L i yD=true then some 18 else none
 else if lev=5 then if bf L i gk=true then some 20 else if bf L i sO=true then some 21 else none
 else if lev=6 then if bf L i sN=true then some 22 else if bf L i rO=true then some 23 else none
 else if lev=7 then if bf L i tT=true then some 24 else none
 else if lev=8 then if bf L i tu=true then some 25 else none
 else none
mutual
def gJ:Nat->Nat->PR (List Nd)
 | 0,_=>.out
 | f+1,i=>(bw f i).bind fun a j=>mR f (dc L E j) a 1 j
def mR:Nat->Int->List Nd->Nat->Nat->PR (List Nd)
 | 0,_,_,_,_=>.out
 | f+1,at_,acc,many,i=>if bf L i cn=true/\i+1 < L.length/\tn L (i+1)=false then (bw f (i+1)).bind fun b j=>mR f at_ (acc++b) (many+1) j
   else .ok (if many=1 then acc else node 9 [] 0 0 at_ acc) i
def bw:Nat->Nat->PR (List Nd)
 | 0,_=>.out
 | f+1,i =>
   if bf L i ox=true then (bw f (i+1)).bind fun c j=>(bI L nP j).bind fun _ j=>(bw f j).bind fun a j=>(bI L eG j).bind fun _ j=>(bw f j).bind fun b j=>.ok (node 10 [] 0 0 (dc L E i) (c++a++b)) j
   else if bf L i fX=true then (bw f (i+1)).bind fun a j=>(bI L rP j).bind fun _ j=>(bw f j).bind fun b j=>.ok (node 11 [] 0 0 (dc L E i) (a++b)) j
   else if bf L i lh=true then (gx L (i+1)).bind fun x j=>(bI L cW j).bind fun _ j=>(iC L j).bind fun n j=>(bI L bL j).bind fun _ j=>(iC L j).bind fun m j=>(bI L jJ j).bind fun _ j=>(bw f j).bind fun a j=>.ok (node 12 x n m (dc L E i) a) j
   else if bf L i il=true then (gx L (i+1)).bind fun x j=>(bI L jJ j).bind fun _ j=>(bw f j).bind fun a j=>(bI L eG j).bind fun _ j=>(bw f j).bind fun b j=>.ok (node 13 x 0 0 (dc L E i) (a++b)) j
   else if bf L i gH=true then (bw f (i+1)).bind fun a j=>(bI L eG j).bind fun _ j=>(bw f j).bind fun b j=>.ok (node 15 [] 0 0 (dc L E i) (a++b)) j
   else if bf L i ig=true then (gx L (i+1)).bind fun x j=>(bI L bL j).bind fun _ j=>(iC L j).bind fun n j=>(bI L jJ j).bind fun _ j=>(bw f j).bind fun a j=>.ok (node 14 x n 0 (dc L E i) a) j
   else if qy L i 1=true/\bf L (i+1) bL=true then (gx L i).bind fun x j=>(bI L bL j).bind fun _ j=>(bw f j).bind fun a j=>.ok (node 16 x 0 0 (dc L E i) a) j
   else dX f 2 i
def dX:Nat->Nat->Nat->PR (List Nd)
 | 0,_,_=>.out
 | f+1,lev,i =>
   if lev=9 then fY f i
   else if lev=4 then if bf L i pK=true then (dX f 4 (i+1)).bind fun a j=>.ok (node 19 [] 0 0 (dc L E i) a) j else dX f 5 i
   else (dX f (lev+1) i).bind fun a j=>kM f lev a j
def kM:Nat->Nat->List Nd->Nat->PR (List Nd)
 | 0,_,_,_=>.out
 | f+1,lev,left,i=>match nD L lev i with
   | none=>.ok left i
   | some kind=>if lev=8 then (iC L (i+1)).bind fun n j=>kM f lev (node kind [] n 0 (dc L E i) left) j
     else (dX f (lev+1) (i+1)).bind fun b j=>if lev=5 then .ok (node kind [] 0 0 (dc L E i) (left++b)) j else kM f lev (node kind [] 0 0 (dc L E i) (left++b)) j
def fY:Nat->Nat->PR (List Nd)
 | 0,_=>.out
 | f+1,i =>
   if bf L i dy=true then .ok (node 27 [] 0 0 (dc L E i) []) (i+1)
   else if bf L i dB=true then .ok (node 28 [] 0 0 (dc L E i) []) (i+1)
   else if bf L i fB=true then .ok (node 29 [] 0 0 (dc L E i) []) (i+1)
   else if bf L i gK=true then .ok (node 30 [] 0 0 (dc L E i) []) (i+1)
   else if bf L i jS=true then (gx L (i+1)).bind fun x j=>.ok (node 31 x 0 0 (dc L E i) []) j
   else if bf L i lZ=true then (gx L (i+1)).bind fun x j=>.ok (node 32 x 0 0 (dc L E i) []) j
   else if bf L i cB=true then (gJ f (i+1)).bind fun a j=>(bI L cg j).bind fun _ j=>.ok a j
   else if qy L i 2=true then (iC L i).bind fun n j=>.ok (node 26 [] n 0 (dc L E i) []) j
   else (gx L i).bind fun x j=>if bf L j cB=true then (iL f (j+1)).bind fun a j=>(j9 f a j).bind fun a j=>(bI L cg j).bind fun _ j=>.ok (node 34 x 0 0 (dc L E i) a) j
    else .ok (node 33 x 0 0 (dc L E i) []) j
def j9:Nat->List Nd->Nat->PR (List Nd)
 | 0,_,_=>.out
 | f+1,acc,i=>if bf L i cw=true then (iL f (i+1)).bind fun b j=>j9 f (acc++b) j else .ok acc i
def iL:Nat->Nat->PR (List Nd)
 | 0,_=>.out
 | f+1,i =>
   if bf L i qF=true then (bI L cB (i+1)).bind fun _ j=>(ju L (kW L E) (L.length+1) j).bind fun a j=>(bI L cg j).bind fun _ j=>(bw f j).bind fun b j=>.ok (node 35 [] 0 0 (dc L E i) (a++b)) j
   else if bf L i nf=true then (bI L vI (i+1)).bind fun _ j=>(bw f j).bind fun a j=>(bI L cn j).bind fun _ j=>(bI L vJ j).bind fun _ j=>(kW L E j).bind fun b j=>(bI L tU j).bind fun _ j=>(bw f j).bind fun c j=>(bI L qq j).bind fun _ j=>.ok (node 36 [] 0 0 (dc L E i) (a++b++c)) j
   else gJ f i
end
def lU (f:Nat) (i:Nat):PR (List Nd) :=
 if bf L i dI=true then (gx L (i+1)).bind fun x j=>(bI L cW j).bind fun _ j=>(jh L E f j).bind fun a j=>(bI L cn j).bind fun _ j=>.ok (node 2 x 0 0 (dc L E i) a) j
 else (if bf L i fH=true then .ok 3 (i+1) else (bI L dz i).bind fun _ j=>.ok 4 j:PR Int).bind fun k j =>
  (gx L j).bind fun x j=>(bI L cB j).bind fun _ j =>
  (if bf L j cg=true then .ok [] j else ju L (jx L E f) f j).bind fun a j =>
  (bI L cg j).bind fun _ j=>(bI L cW j).bind fun _ j=>(fM L E j).bind fun b j=>(bI L gk j).bind fun _ j=>(gJ L E f j).bind fun c j =>
  (bI L cn j).bind fun _ j=>.ok (node k x 0 0 (dc L E i) (a++b++c)) j
def fuel:Nat:=40 * (L.length+2)
def jN:Nat->List Nd->Nat->PR (List Nd)
 | 0,_,_=>.out
 | f+1,acc,i=>if i < L.length then (lU L E (fuel L) i).bind fun a j=>jN f (acc++a) j else .ok acc i
end
end Go.Rip
namespace Go.Rip
def Gd {α:Type} (n lo lb:Nat):PR α->Prop
 | .ok _ j=>lo <= j/\j <= n
 | .bad j=>lb <= j/\j <= n
 | .out=>False
section
variable {α β:Type} {n lo F1 lb i:Nat} {L:List Tk} {E:Nat}
theorem Gd.bind {x:PR α} {f:α->Nat->PR β} (h:Gd n lo lb x) (k:∀ a j,lo <= j->j <= n->Gd n F1 lb (f a j)):Gd n F1 lb (x.bind f):=by
 cases x with
 | ok a j=>exact k a j h.1 h.2
 | bad j=>exact h
 | out=>exact h.elim
theorem Gd.ite {c:Prop} [Decidable c] {x y:PR α} (h:c->Gd n lo lb x) (k:¬ c->Gd n lo lb y):Gd n lo lb (if c then x else y):=by
 split
 . exact h ‹_›
 . exact k ‹_›
theorem Gd.low {x:PR α} (h:Gd n lo lb x) (k:F1 <= lo):Gd n F1 lb x:=by
 cases x with
 | ok a j=>exact ⟨Nat.le_trans k h.1,h.2⟩
 | bad j=>exact h
 | out=>exact h
theorem Gd.uC {lb':Nat} {x:PR α} (h:Gd n lo lb x) (k:lb' <= lb):Gd n lo lb' x:=by
 cases x with
 | ok a j=>exact h
 | bad j=>exact ⟨Nat.le_trans k h.1,h.2⟩
 | out=>exact h
theorem Gd.at' {lb':Nat} {x:PR α} (h:Gd n lo lb x) (k:F1 <= lo) (k':lb' <= lb):Gd n F1 lb' x:=(h.low k).uC k'
theorem dw {w:aG} (h:bf L i w=true):i < L.length:=by
 unfold bf at h
 split at h
 . rename_i t ht; exact (dC.1 ht).1
 . cases h
theorem Yj {k:Nat} (h:qy L i k=true):i < L.length:=by
 unfold qy at h
 split at h
 . rename_i t ht; exact (dC.1 ht).1
 . cases h
theorem dj {w:aG} (h:i <= L.length):Gd L.length (i+1) i (bI L w i):=by
 unfold bI
 exact .ite (fun c=>⟨bT _,dw c⟩) fun _=>⟨bT _,h⟩
theorem lM (h:i <= L.length):Gd L.length (i+1) i (gx L i):=by
 unfold gx
 split
 . rename_i t ht
   have:=(dC.1 ht).1
   exact .ite (fun c=>⟨bT _,this⟩) fun _=>⟨bT _,h⟩
 . exact ⟨bT _,h⟩
theorem qB (h:i <= L.length):Gd L.length (i+1) i (iC L i):=by
 unfold iC
 split
 . rename_i t ht
   have:=(dC.1 ht).1
   exact .ite (fun c=>⟨bT _,this⟩) fun _=>⟨bT _,h⟩
 . exact ⟨bT _,h⟩
theorem Ja {one:Nat->PR (List Nd)} (h1:∀ i,i <= L.length->Gd L.length (i+1) i (one i)):∀ (f:Nat) (acc:List Nd) (i:Nat),i <= L.length->L.length - i < f->Gd L.length i i (lV L one f acc i)
 | 0,acc,i,hi,hf=>by omega
 | f+1,acc,i,hi,hf=>by
   unfold lV
   refine .ite (fun c=>?_) fun _=>⟨bT _,hi⟩
   have:=dw c
   refine ((h1 (i+1) this).uC (lb':=i) (by omega)).bind fun b j h2 h3=>?_
   exact (Ja h1 f _ j h3 (by omega)).at' (by omega) (by omega)
theorem Cb {one:Nat->PR (List Nd)} (h1:∀ i,i <= L.length->Gd L.length (i+1) i (one i)) {f:Nat} (hi:i <= L.length) (hf:L.length - i <= f) (h0:0 < f):Gd L.length (i+1) i (ju L one f i):=by
 unfold ju
 refine (h1 i hi).bind fun a j h2 h3=>?_
 exact (Ja h1 f _ j h3 (by omega)).at' (by omega) (by omega)
theorem qw (h:i <= L.length):Gd L.length (i+1) i (fM L E i):=by
 unfold fM
 refine .ite (fun c=>⟨bT _,dw c⟩) fun _=>.ite (fun c=>⟨bT _,dw c⟩) fun _=>.ite (fun c=>?_) fun _=>?_
 . have:=dw c
   exact ((qB this).uC (lb':=i) (by omega)).bind fun a j h2 h3=>⟨by omega,h3⟩
 . refine (dj h).bind fun a j h2 h3=>?_
   exact ((qB h3).uC (lb':=i) (by omega)).bind fun a j h2 h3=>⟨by omega,h3⟩
theorem x5 {f:Nat} (h:i <= L.length) (hf:L.length < f):Gd L.length (i+1) i (jh L E f i):=by
 unfold jh
 refine .ite (fun c=>?_) fun _=>qw h
 have:=dw c
 refine ((Cb (fun i hi=>qw hi) this (by omega) (by omega)).uC (lb':=i) (by omega)).bind fun a j h2 h3=>?_
 refine ((dj h3).uC (lb':=i) (by omega)).bind fun a j h4 h5=>?_
 refine ((dj h5).uC (lb':=i) (by omega)).bind fun a j h6 h7=>?_
 exact ((qw h7).uC (lb':=i) (by omega)).bind fun a j h8 h9=>⟨by omega,h9⟩
theorem Gf {f:Nat} (h:i <= L.length) (hf:L.length < f):Gd L.length (i+1) i (jx L E f i):=by
 unfold jx
 refine (lM h).bind fun a j h2 h3=>?_
 refine ((dj h3).uC (lb':=i) (by omega)).bind fun a j h4 h5=>?_
 exact ((x5 h5 hf).uC (lb':=i) (by omega)).bind fun a j h8 h9=>⟨by omega,h9⟩
theorem xD (h:i <= L.length):Gd L.length (i+1) i (kW L E i):=by
 unfold kW
 exact (lM h).bind fun a j h2 h3=>⟨h2,h3⟩
theorem Gd.step {lo1 lb1:Nat} {x:PR α} {f:α->Nat->PR β} (h:Gd n lo1 lb1 x) (hb:lb <= lb1) (k:∀ a j,lo1 <= j->j <= n->Gd n F1 lb (f a j)):Gd n F1 lb (x.bind f):=(h.uC hb).bind k
theorem L7 {lev:Nat} {k:Int} (h:nD L lev i=some k):i < L.length:=by
 unfold nD at h
 repeat' (split at h)
 all_goals first
  | (cases h; done)
  | exact dw ‹_›
theorem zo:∀ f:Nat,
 (∀ i,i <= L.length->40 * (L.length - i)+11 <= f->Gd L.length (i+1) i (gJ L E f i)) /\
 (∀ i at_ acc many,i <= L.length->40 * (L.length - i)+1 <= f->Gd L.length i i (mR L E f at_ acc many i)) /\
 (∀ i,i <= L.length->40 * (L.length - i)+10 <= f->Gd L.length (i+1) i (bw L E f i)) /\
 (∀ i lev,i <= L.length->lev <= 9->40 * (L.length - i)+(11 - lev) <= f->Gd L.length (i+1) i (dX L E f lev i)) /\
 (∀ i lev left,i <= L.length->lev <= 8->40 * (L.length - i)+1 <= f->Gd L.length i i (kM L E f lev left i)) /\
 (∀ i,i <= L.length->40 * (L.length - i)+1 <= f->Gd L.length (i+1) i (fY L E f i)) /\
 (∀ i acc,i <= L.length->40 * (L.length - i)+1 <= f->Gd L.length i i (j9 L E f acc i)) /\
 (∀ i,i <= L.length->40 * (L.length - i)+12 <= f->Gd L.length (i+1) i (iL L E f i)):=by
 intro f
 induction f with
 | zero=>refine ⟨?_,?_,?_,?_,?_,?_,?_,?_⟩ <;> intros <;> omega
 | succ f ih =>
   obtain ⟨iT,iS,iF,iO,iP,iA,iG,iR⟩:=ih
   refine ⟨?_,?_,?_,?_,?_,?_,?_,?_⟩
   . intro i hi hf
     rw [gJ]
     refine (iF i hi (by omega)).bind fun a j h1 h2=>?_
     exact (iS j _ _ _ h2 (by omega)).at' (by omega) (by omega)
   . intro i at_ acc many hi hf
     rw [mR]
     refine .ite (fun c=>?_) fun _=>⟨bT _,hi⟩
     have h0:=dw c.1
     refine (iF (i+1) (by omega) (by omega)).step (by omega) fun a j h1 h2=>?_
     exact (iS j _ _ _ h2 (by omega)).at' (by omega) (by omega)
   . intro i hi hf
     rw [bw]
     refine .ite (fun c=>?_) fun _=>.ite (fun c=>?_) fun _=>.ite (fun c=>?_) fun _=>.ite (fun c=>?_) fun _=>.ite (fun c=>?_) fun _=>.ite (fun c=>?_) fun _=>.ite (fun c=>?_) fun _=>?_
     . have h0:=dw c
       refine (iF (i+1) (by omega) (by omega)).step (by omega) fun a j h1 h2=>(dj h2).step (by omega) fun a j h3 h4=>(iF j (by omega) (by omega)).step (by omega) fun a j h5 h6=>(dj h6).step (by omega) fun a j h7 h8=>(iF j (by omega) (by omega)).step (by omega) fun a j h9 nw=>⟨by omega,nw⟩
     . have h0:=dw c
       exact (iF (i+1) (by omega) (by omega)).step (by omega) fun a j h1 h2=>(dj h2).step (by omega) fun a j h3 h4=>(iF j (by omega) (by omega)).step (by omega) fun a j h5 h6=>⟨by omega,h6⟩
     . have h0:=dw c
       exact (lM h0).step (by omega) fun a j h1 h2=>(dj h2).step (by omega) fun a j h3 h4=>(qB h4).step (by omega) fun a j h5 h6=>(dj h6).step (by omega) fun a j h7 h8=>(qB h8).step (by omega) fun a j h9 nw=>(dj nw).step (by omega) fun a j wE wF=>(iF j (by omega) (by omega)).step (by omega) fun a j h13 Pm=>⟨by omega,Pm⟩
     . have h0:=dw c
       exact (lM h0).step (by omega) fun a j h1 h2=>(dj h2).step (by omega) fun a j h3 h4=>(iF j (by omega) (by omega)).step (by omega) fun a j h5 h6=>(dj h6).step (by omega) fun a j h7 h8=>(iF j (by omega) (by omega)).step (by omega) fun a j h9 nw=>⟨by omega,nw⟩
     . have h0:=dw c
       exact (iF (i+1) (by omega) (by omega)).step (by omega) fun a j h1 h2=>(dj h2).step (by omega) fun a j h3 h4=>(iF j (by omega) (by omega)).step (by omega) fun a j h5 h6=>⟨by omega,h6⟩
     . have h0:=dw c
       exact (lM h0).step (by omega) fun a j h1 h2=>(dj h2).step (by omega) fun a j h3 h4=>(qB h4).step (by omega) fun a j h5 h6=>(dj h6).step (by omega) fun a j h7 h8=>(iF j (by omega) (by omega)).step (by omega) fun a j h9 nw=>⟨by omega,nw⟩
     . have h0:=Yj c.1
       exact (lM hi).step (by omega) fun a j h1 h2=>(dj h2).step (by omega) fun a j h3 h4=>(iF j (by omega) (by omega)).step (by omega) fun a j h5 h6=>⟨by omega,h6⟩
     . exact iO i 2 hi (by omega) (by omega)
   . intro i lev hi hl hf
     rw [dX]
     refine .ite (fun c=>?_) fun c9=>.ite (fun c=>.ite (fun d=>?_) fun d=>?_) fun c4=>?_
     . exact iA i hi (by omega)
     . have h0:=dw d
       exact (iO (i+1) 4 (by omega) (by omega) (by omega)).step (by omega) fun a j h1 h2=>⟨by omega,h2⟩
     . exact iO i 5 hi (by omega) (by omega)
     . refine (iO i (lev+1) hi (by omega) (by omega)).bind fun a j h1 h2=>?_
       exact (iP j lev a h2 (by omega) (by omega)).at' (by omega) (by omega)
   . intro i lev left hi hl hf
     rw [kM]
     split
     . exact ⟨bT _,hi⟩
     . rename_i k hk
       have h0:=L7 hk
       refine .ite (fun c=>?_) fun c=>?_
       . exact (qB h0).step (by omega) fun a j h1 h2=>(iP j lev _ h2 hl (by omega)).at' (by omega) (by omega)
       . refine (iO (i+1) (lev+1) h0 (by omega) (by omega)).step (by omega) fun a j h1 h2=>.ite (fun _=>⟨by omega,h2⟩) fun _=>?_
         exact (iP j lev _ h2 hl (by omega)).at' (by omega) (by omega)
   . intro i hi hf
     rw [fY]
     refine .ite (fun c=>⟨bT _,dw c⟩) fun _=>.ite (fun c=>⟨bT _,dw c⟩) fun _=>.ite (fun c=>⟨bT _,dw c⟩) fun _=>.ite (fun c=>⟨bT _,dw c⟩) fun _=>.ite (fun c=>?_) fun _=>.ite (fun c=>?_) fun _=>.ite (fun c=>?_) fun _=>.ite (fun c=>?_) fun _=>?_
     . have h0:=dw c
       exact (lM h0).step (by omega) fun a j h1 h2=>⟨by omega,h2⟩
     . have h0:=dw c
       exact (lM h0).step (by omega) fun a j h1 h2=>⟨by omega,h2⟩
     . have h0:=dw c
       exact (iT (i+1) (by omega) (by omega)).step (by omega) fun a j h1 h2=>(dj h2).step (by omega) fun a j h3 h4=>⟨by omega,h4⟩
     . exact (qB hi).step (by omega) fun a j h1 h2=>⟨by omega,h2⟩
     . refine (lM hi).step (by omega) fun a j h1 h2=>.ite (fun c=>?_) fun _=>⟨by omega,h2⟩
       have h0:=dw c
       exact (iR (j+1) (by omega) (by omega)).step (by omega) fun a j h3 h4=>(iG j _ h4 (by omega)).step (by omega) fun a j h5 h6=>(dj h6).step (by omega) fun a j h7 h8=>⟨by omega,h8⟩
   . intro i acc hi hf
     rw [j9]
     refine .ite (fun c=>?_) fun _=>⟨bT _,hi⟩
     have h0:=dw c
     exact (iR (i+1) (by omega) (by omega)).step (by omega) fun a j h1 h2=>(iG j _ h2 (by omega)).at' (by omega) (by omega)
   . intro i hi hf
     rw [iL]
     refine .ite (fun c=>?_) fun _=>.ite (fun c=>?_) fun _=>?_
     . have h0:=dw c
       exact (dj h0).step (by omega) fun a j h1 h2=>(Cb (fun i hi=>xD hi) h2 (by omega) (by omega)).step (by omega) fun a j h3 h4=>(dj h4).step (by omega) fun a j h5 h6=>(iF j (by omega) (by omega)).step (by omega) fun a j h7 h8=>⟨by omega,h8⟩
     . have h0:=dw c
       exact (dj h0).step (by omega) fun a j h1 h2=>(iF j (by omega) (by omega)).step (by omega) fun a j h3 h4=>(dj h4).step (by omega) fun a j h5 h6=>(dj h6).step (by omega) fun a j h7 h8=>(xD h8).step (by omega) fun a j h9 nw=>(dj nw).step (by omega) fun a j wE wF=>(iF j (by omega) (by omega)).step (by omega) fun a j h13 Pm=>(dj Pm).step (by omega) fun a j h15 h16=>⟨by omega,h16⟩
     . exact iT i hi (by omega)
theorem UM {f:Nat} (hi:i <= L.length) (hf:40 * (L.length - i)+11 <= f) (kD:L.length < f):Gd L.length (i+1) i (lU L E f i):=by
 unfold lU
 refine .ite (fun c=>?_) fun _=>?_
 . have h0:=dw c
   exact (lM h0).step (by omega) fun a j h1 h2=>(dj h2).step (by omega) fun a j h3 h4=>(x5 h4 kD).step (by omega) fun a j h5 h6=>(dj h6).step (by omega) fun a j h7 h8=>⟨by omega,h8⟩
 . refine Gd.bind (lo:=i+1) (.ite (fun c=>⟨bT _,dw c⟩) fun _=>(dj hi).bind fun a j h1 h2=>⟨h1,h2⟩) fun k j h1 h2=>?_
   refine (lM h2).step (by omega) fun a j h3 h4=>(dj h4).step (by omega) fun a j h5 h6=>?_
   refine Gd.step (lo1:=j) (lb1:=j) (.ite (fun c=>⟨bT _,h6⟩) fun _=>(Cb (fun i hi=>Gf hi kD) h6 (by omega) (by omega)).low (by omega)) (by omega) fun a j h7 h8=>?_
   exact (dj h8).step (by omega) fun a j h9 nw=>(dj nw).step (by omega) fun a j wE wF=>(qw wF).step (by omega) fun a j h13 Pm=>(dj Pm).step (by omega) fun a j h15 h16=>((zo f).1 j h16 (by omega)).step (by omega) fun a j h17 h18=>(dj h18).step (by omega) fun a j h19 h20=>⟨by omega,h20⟩
theorem Db (hi:i <= L.length):Gd L.length (i+1) i (lU L E (fuel L) i):=UM hi (by unfold fuel; omega) (by unfold fuel; omega)
theorem FJ:∀ (f:Nat) (acc:List Nd) (i:Nat),i <= L.length->L.length - i < f->Gd L.length i i (jN L E f acc i)
 | 0,_,_,_,h=>by omega
 | f+1,acc,i,hi,hf=>by
   rw [jN]
   refine .ite (fun c=>?_) fun _=>⟨bT _,hi⟩
   refine (Db hi).bind fun a j h1 h2=>?_
   exact (FJ f _ j h2 (by omega)).at' (by omega) (by omega)
end
end Go.Rip
namespace Go.Rip
def kh (t:Tk):Prop:=t.s ≠ []/\ic t.s=(0,t.k,t.s)
theorem xk (p:UInt8->Bool):∀ l:aG,(l.takeWhile p).takeWhile p=l.takeWhile p
 | []=>rfl
 | c::l=>by
   simp only [l9]
   cases h:p c with
   | true=>simp [h,xk p l]
   | false=>rfl
theorem Jy:∀ x ∈ iN,ic x=(0,4,x)/\x ≠ []:=by decide
theorem AX {s:aG} {k:Nat} {t:aG} (h:ic s=(0,k,t)):kh ⟨k,t,0⟩/\t <+: s:=by
 have hid:=xk c8 s
 have si:=wb c8 (l:=s)
 unfold ic at h
 simp only at h
 split at h
 . rename_i hw
   split at h
   . rename_i x hx
     simp only [gL,true_and] at h
     obtain ⟨rfl,rfl⟩:=h
     have hm:=List.mem_of_find?_eq_some hx
     have hp:=List.find?_some hx
     exact ⟨⟨(Jy _ hm).2,(Jy _ hm).1⟩,List.isPrefixOf_iff_prefix.1 hp⟩
   . simp at h
 . rename_i c r hw
   have key:∀ {e:Int} {k:Nat},ic (s.takeWhile c8)=(e,k,s.takeWhile c8)->e=0->kh ⟨k,s.takeWhile c8,0⟩/\s.takeWhile c8 <+: s:=fun h1 h2=>⟨⟨by simp [hw],by rw [h1,h2]⟩,si⟩
   split at h
   . rename_i hd
     simp only [gL] at h
     obtain ⟨h1,rfl,rfl⟩:=h
     refine key ?_ h1
     unfold ic
     simp only [hid]
     rw [hw]
     simp only [if_pos hd]
   . rename_i hd
     split at h
     . simp at h
     . rename_i hs
       split at h
       . rename_i hk
         simp only [gL,true_and] at h
         obtain ⟨rfl,rfl⟩:=h
         refine key ?_ rfl
         unfold ic
         simp only [hid]
         rw [hw] at hk ⊢
         simp only [if_neg hd,if_neg hs,if_pos hk]
       . rename_i hk
         split at h
         . simp at h
         . rename_i hl
           simp only [gL,true_and] at h
           obtain ⟨rfl,rfl⟩:=h
           refine key ?_ rfl
           unfold ic
           simp only [hid]
           rw [hw] at hk hl ⊢
           simp only [if_neg hd,if_neg hs,if_neg hk,if_neg hl]
theorem AJ:∀ (f:Nat) (s:aG) (p:Nat) (l:List Tk) {L:List Tk},eT f s p l=.ok L->(∀ t ∈ l,kh t)->l.length <= 900->(∀ t ∈ L,kh t)/\L.length <= 900
 | 0,s,p,l,L,h,hl,hn=>by simp only [eT,xv.ok.injEq] at h; subst h; exact ⟨hl,hn⟩
 | f+1,s,p,l,L,h,hl,hn=>by
   simp only [eT] at h
   split at h
   . simp only [xv.ok.injEq] at h; subst h; exact ⟨hl,hn⟩
   . split at h
     . exact AJ f s _ l h hl hn
     . split at h
       . exact AJ f s _ l h hl hn
       . split at h
         . cases h
         . rename_i he
           split at h
           . cases h
           . rename_i hc
             refine AJ f s _ _ h (fun t ht=>?_) (by simp; omega)
             simp only [gu,jX] at ht
             rcases ht with ht | rfl
             . exact hl t ht
             . have mV:(ic _).1=0:=Decidable.not_not.1 he
               exact (AX (Prod.ext mV rfl)).1
theorem wX {s:aG} {L:List Tk} (h:iM s=.ok L):(∀ t ∈ L,kh t)/\L.length <= 900:=by
 unfold iM at h
 split at h
 split at h
 . cases h
 . exact AJ _ _ _ _ h (by simp) (by simp)
end Go.Rip
namespace Go.Rip
def kj (a:Int) (s:aG):Int:=s.foldl (fun n c=>min (10 * n+((c.toNat:Int) - 48)) 1000001) a
def kX (a:Int) (s:aG):Int:=s.foldl (fun n c=>10 * n+((c.toNat:Int) - 48)) a
theorem iX {c:UInt8}:gd c=true ↔ 48 <= c.toNat/\c.toNat <= 57:=by simp [gd]
theorem EC:∀ (s:aG) (a:Int),a <= 1000001->kj a s <= 1000001
 | [],a,h=>h
 | c::s,a,h=>EC s (min (10 * a+((c.toNat:Int) - 48)) 1000001) (by omega)
theorem ub:∀ (s:aG) (a:Int),s.all gd=true->0 <= a->min a 1000001 <= kj a s
 | [],a,_,h=>by simp [kj]; omega
 | c::s,a,hd,h=>by
   simp only [List.all_cons,bS] at hd
   have h1:=iX.1 hd.1
   have:=ub s (min (10 * a+((c.toNat:Int) - 48)) 1000001) hd.2 (by omega)
   have e:kj a (c::s)=kj (min (10 * a+((c.toNat:Int) - 48)) 1000001) s:=rfl
   omega
theorem Ga:∀ (s:aG) (a:Int),s.all gd=true->0 <= a->kj a s <= 1000000->kj a s=kX a s
 | [],a,_,_,_=>rfl
 | c::s,a,hd,h,hl=>by
   simp only [List.all_cons,bS] at hd
   have h1:=iX.1 hd.1
   have e:kj a (c::s)=kj (min (10 * a+((c.toNat:Int) - 48)) 1000001) s:=rfl
   have e2:kX a (c::s)=kX (10 * a+((c.toNat:Int) - 48)) s:=rfl
   have hg:=ub s (min (10 * a+((c.toNat:Int) - 48)) 1000001) hd.2 (by omega)
   have hm:min (10 * a+((c.toNat:Int) - 48)) 1000001=10 * a+((c.toNat:Int) - 48):=by omega
   rw [hm] at e
   rw [e,e2]
   exact Ga s _ hd.2 (by omega) (by omega)
theorem Jg:∀ (s:aG) (a:Int),s.all gd=true->1 <= a->kj a s <= 1000000->10 ^ s.length * a <= kj a s
 | [],a,_,_,_=>by simp [kj]
 | c::s,a,hd,h,hl=>by
   simp only [List.all_cons,bS] at hd
   have h1:=iX.1 hd.1
   have e:kj a (c::s)=kj (min (10 * a+((c.toNat:Int) - 48)) 1000001) s:=rfl
   have hg:=ub s (min (10 * a+((c.toNat:Int) - 48)) 1000001) hd.2 (by omega)
   have hm:min (10 * a+((c.toNat:Int) - 48)) 1000001=10 * a+((c.toNat:Int) - 48):=by omega
   rw [hm] at e
   rw [e] at hl ⊢
   have:=Jg s _ hd.2 (by omega) hl
   have hp:(0:Int) < 10 ^ s.length:=Int.pow_pos (by omega)
   have:10 ^ s.length * (10 * a) <= 10 ^ s.length * (10 * a+((c.toNat:Int) - 48)):=Int.mul_le_mul_of_nonneg_left (by omega) (by omega)
   rw [fm,Int.pow_succ,Int.mul_assoc]
   omega
theorem AM {s:aG} (h:oW s=0):s.all gd=true/\¬ (1 < s.length/\s.head?=some 48)/\Jh s <= 1000000:=by
 unfold oW at h
 split at h
 . cases h
 . rename_i h1
   split at h
   . cases h
   . rename_i h2
     split at h
     . cases h
     . rename_i h3; exact ⟨by simpa using h1,h2,by omega⟩
theorem vw {s:aG} (h0:s ≠ []) (h:oW s=0):1 <= s.length/\s.length <= 7/\Jh s=sd s/\0 <= sd s/\sd s <= 1000000:=by
 obtain ⟨h1,h2,h3⟩:=AM h
 have hv:Jh s=kj 0 s:=rfl
 have hd:sd s=kX 0 s:=rfl
 have e:=Ga s 0 h1 (by omega) (by omega)
 have hg:=ub s 0 h1 (by omega)
 refine ⟨?_,?_,by omega,by omega,by omega⟩
 . cases s with
   | nil=>exact absurd rfl h0
   | cons c s=>simp
 . cases s with
   | nil=>simp
   | cons c s =>
     simp only [List.all_cons,bS] at h1
     have hc:=iX.1 h1.1
     rcases kO s.length 1 with hl | hl
     . simp; omega
     . have Ll:c ≠ 48:=fun e=>h2 ⟨by simp; omega,by simp [e]⟩
       have wI:c.toNat ≠ 48:=fun e=>Ll (by apply UInt8.toNat_inj.1; simpa using e)
       have e1:kj 0 (c::s)=kj ((c.toNat:Int) - 48) s:=by
        show kj (min (10 * 0+((c.toNat:Int) - 48)) 1000001) s=_
        congr 1; omega
       have hlen:=Jg s ((c.toNat:Int) - 48) h1.2 (by omega) (by omega)
       rcases kO s.length 7 with hl | hl
       . simp; omega
       . exfalso
         have h7:(10:Int) ^ 7 <= 10 ^ s.length:=by
          have:=Nat.pow_le_pow_right (n:=10) (by omega) hl
          exact_mod_cast this
         have:(10:Int) ^ s.length * 1 <= 10 ^ s.length * ((c.toNat:Int) - 48):=Int.mul_le_mul_of_nonneg_left (by omega) (by omega)
         omega
theorem Cv {s:aG} (h:ic s=(0,2,s)) (h0:s ≠ []):oW s=0:=by
 unfold ic at h
 simp only at h
 split at h
 . split at h <;> simp at h
 . rename_i c r hw
   split at h
   . simp only [gL,true_and] at h
     rw [h.2] at h; exact h.1
   . split at h
     . simp at h
     . split at h
       . simp at h
       . split at h <;> simp at h
theorem ED {t:Tk} (h:kh t) (hk:t.k=2):oW t.s=0:=Cv (by rw [h.2,hk]) h.1
theorem A9:∀ (s:aG) (a:Nat),s.all gd=true->∃ m,Lib.decFrom a s=some m/\(m:Int)=kX a s
 | [],a,_=>⟨a,rfl,rfl⟩
 | c::s,a,h=>by
   simp only [List.all_cons,bS] at h
   have hc:=iX.1 h.1
   obtain ⟨m,h1,h2⟩:=A9 s (a * 10+(c.toNat - 48)) h.2
   refine ⟨m,?_,?_⟩
   . simp only [Lib.decFrom,Lib.digitVal,if_pos hc]; exact h1
   . rw [h2]
     show kX _ s=kX (10 * (a:Int)+((c.toNat:Int) - 48)) s
     congr 1; omega
theorem TJ {s:aG} (h0:s ≠ []) (h:s.all gd=true):Lib.atoi s=some (sd s):=by
 cases s with
 | nil=>exact absurd rfl h0
 | cons c s =>
   have h':=h
   simp only [List.all_cons,bS] at h'
   have hc:=iX.1 h'.1
   obtain ⟨m,h1,h2⟩:=A9 (c::s) 0 h
   have c45:(c == 45)=false:=by simp; rintro rfl; simp at hc
   have c43:(c == 43)=false:=by simp; rintro rfl; simp at hc
   simp only [Lib.atoi,c45,c43,bQ,if_false,Lib.decNat,List.isEmpty_cons,h1,Option.map_some,ji]
   exact h2
end Go.Rip
namespace Go.Rip
theorem qZ {s:aG} {k:Nat} {t:aG} (h:ic s=(0,k,t)):(k=1/\t ∉ k0/\t.length <= 12/\(∃ c r,t=c::r/\lT c=true)/\t.all c8=true)\/(k=2/\∃ c r,t=c::r/\gd c=true)\/(k=3/\t ∈ k0)\/(k=4/\t ∈ iN):=by
 have cm:(s.takeWhile c8).all c8=true:=by
  rw [fe]; intro x hx
  have:∀ l:aG,x ∈ l.takeWhile c8->c8 x=true:=fun l=>by
   induction l with
   | nil=>simp
   | cons c l ih =>
     simp only [l9]
     split
     . rename_i hc
       intro h
       rcases cJ.1 h with rfl | h
       . exact hc
       . exact ih h
     . simp
  exact this s hx
 unfold ic at h
 simp only at h
 split at h
 . split at h
   . rename_i x hx
     simp only [gL,true_and] at h
     obtain ⟨rfl,rfl⟩:=h
     exact .inr (.inr (.inr ⟨rfl,List.mem_of_find?_eq_some hx⟩))
   . simp at h
 . rename_i c r hw
   split at h
   . rename_i hd
     simp only [gL] at h
     obtain ⟨h1,rfl,rfl⟩:=h
     exact .inr (.inl ⟨rfl,c,r,hw,hd⟩)
   . split at h
     . simp at h
     . rename_i hs
       split at h
       . rename_i hk
         simp only [gL,true_and] at h
         obtain ⟨rfl,rfl⟩:=h
         exact .inr (.inr (.inl ⟨rfl,hk⟩))
       . rename_i hk
         split at h
         . simp at h
         . rename_i hl
           simp only [gL,true_and] at h
           obtain ⟨rfl,rfl⟩:=h
           exact .inl ⟨rfl,hk,by omega,⟨c,r,hw,by simpa using hs⟩,cm⟩
theorem kh.cases {t:Tk} (h:kh t):(t.k=1/\t.s ∉ k0)\/t.k=2\/(t.k=3/\t.s ∈ k0)\/(t.k=4/\t.s ∈ iN):=by
 rcases qZ h.2 with h | h | h | h
 . exact .inl ⟨h.1,h.2.1⟩
 . exact .inr (.inl h.1)
 . exact .inr (.inr (.inl h))
 . exact .inr (.inr (.inr h))
theorem NA:∀ w ∈ k0,w ∉ iN:=by decide
theorem vd {L:List Tk} {i:Nat} {w:aG} (h:bf L i w=true):∃ t,L[i]?=some t/\(t.k=3\/t.k=4)/\t.s=w:=by
 unfold bf at h
 split at h
 . rename_i t ht
   simp only [bS,jW,beq_iff_eq] at h
   exact ⟨t,ht,h.1,h.2⟩
 . cases h
theorem Yl {L:List Tk} {i:Nat} {w:aG} {t:Tk} (ht:L[i]?=some t) (hk:t.k=3\/t.k=4) (hs:t.s=w):bf L i w=true:=by
 unfold bf; rw [ht]; simp [hs,hk]
theorem Yk {L:List Tk} (hL:∀ t ∈ L,kh t) {i:Nat} {w:aG} (hw:w ∈ k0) (h:bf L i w=true):∃ t,L[i]?=some t/\t.k=3/\t.s=w:=by
 obtain ⟨t,ht,hk,hs⟩:=vd h
 refine ⟨t,ht,?_,hs⟩
 rcases hk with hk | hk
 . exact hk
 . rcases (hL t (gr ht)).cases with h | h | h | h
   . omega
   . omega
   . omega
   . rw [hs] at h; exact absurd h.2 (NA w hw)
def sB (o:Option Tk):aG:=match o with | some t=>if t.k=3\/t.k=4 then t.s else [] | none=>[]
theorem FI {L:List Tk} {i:Nat} {w:aG} (hw:w ≠ []):bf L i w=decide (sB L[i]?=w):=by
 unfold bf sB
 split
 . rename_i t ht
   by_cases h:t.k=3\/t.k=4
   . by_cases hs:t.s=w <;> simp [ht,h,hs]
   . have h3:¬ t.k=3:=fun e=>h (.inl e)
     have h4:¬ t.k=4:=fun e=>h (.inr e)
     simp [ht,h3,h4,Ne.symm hw]
 . rename_i ht; simp [ht,Ne.symm hw]
end Go.Rip
namespace Go.Rip
theorem PR.ah {α β:Type} {x:PR α} {f:α->Nat->PR β} {b:β} {j:Nat} (h:x.bind f=.ok b j):∃ a i,x=.ok a i/\f a i=.ok b j:=by
 cases x with
 | ok a i=>exact ⟨a,i,rfl,h⟩
 | bad i=>cases h
 | out=>cases h
theorem PR.aS {α:Type} {a b:α} {i j:Nat} (h:PR.ok a i=PR.ok b j):a=b/\i=j:=by cases h; exact ⟨rfl,rfl⟩
theorem cH {L:List Tk} {w:aG} {i j:Nat} {u:Unit} (h:bI L w i=.ok u j):j=i+1:=by
 unfold bI at h; split at h <;> cases h; rfl
theorem jV {L:List Tk} {i j:Nat} {u:aG} (h:gx L i=.ok u j):j=i+1:=by
 unfold gx at h; split at h
 . split at h <;> cases h; rfl
 . cases h
theorem om {L:List Tk} {i j:Nat} {u:Int} (h:iC L i=.ok u j):j=i+1:=by
 unfold iC at h; split at h
 . split at h <;> cases h; rfl
 . cases h
theorem bU (k:Int) (t:aG) (n m a:Int) (l:List Nd):(node k t n m a l).length=l.length+1:=rfl
section
variable {L:List Tk} {E:Nat}
theorem uZ {i j:Nat} {ns:List Nd} (h:fM L E i=.ok ns j):ns.length+i <= j:=by
 unfold fM at h
 split at h
 . obtain ⟨rfl,rfl⟩:=PR.aS h; simp [bU]; omega
 . split at h
   . obtain ⟨rfl,rfl⟩:=PR.aS h; simp [bU]; omega
   . split at h
     . obtain ⟨_,_,h1,h⟩:=PR.ah h
       have:=om h1
       obtain ⟨rfl,rfl⟩:=PR.aS h; simp [bU]; omega
     . obtain ⟨_,_,h1,h⟩:=PR.ah h
       obtain ⟨_,_,h2,h⟩:=PR.ah h
       have:=cH h1; have:=om h2
       obtain ⟨rfl,rfl⟩:=PR.aS h; simp [bU]; omega
theorem E8 {i j:Nat} {ns:List Nd} (h:kW L E i=.ok ns j):ns.length+i <= j:=by
 unfold kW at h
 obtain ⟨_,_,h1,h⟩:=PR.ah h
 have:=jV h1
 obtain ⟨rfl,rfl⟩:=PR.aS h; simp [bU]; omega
theorem F4 {one:Nat->PR (List Nd)} (h1:∀ {i j ns},one i=.ok ns j->ns.length+i <= j):∀ (f:Nat) (acc:List Nd) (i:Nat) {j:Nat} {ns:List Nd},lV L one f acc i=.ok ns j->ns.length+i <= j+acc.length
 | 0,_,_,_,_,h=>by cases h
 | f+1,acc,i,j,ns,h=>by
   unfold lV at h
   split at h
   . obtain ⟨_,_,h2,h⟩:=PR.ah h
     have:=h1 h2
     have:=F4 h1 f _ _ h
     simp at this; omega
   . obtain ⟨rfl,rfl⟩:=PR.aS h; omega
theorem zH {one:Nat->PR (List Nd)} (h1:∀ {i j ns},one i=.ok ns j->ns.length+i <= j) {f i j:Nat} {ns:List Nd} (h:ju L one f i=.ok ns j):ns.length+i <= j:=by
 unfold ju at h
 obtain ⟨_,_,h2,h⟩:=PR.ah h
 have:=h1 h2
 have:=F4 h1 f _ _ h
 omega
theorem FV {f i j:Nat} {ns:List Nd} (h:jh L E f i=.ok ns j):ns.length+i <= j:=by
 unfold jh at h
 split at h
 . obtain ⟨_,_,h1,h⟩:=PR.ah h
   obtain ⟨_,_,h2,h⟩:=PR.ah h
   obtain ⟨_,_,h3,h⟩:=PR.ah h
   obtain ⟨_,_,h4,h⟩:=PR.ah h
   have:=zH (fun h=>uZ h) h1; have:=cH h2; have:=cH h3; have:=uZ h4
   obtain ⟨rfl,rfl⟩:=PR.aS h; simp [bU]; omega
 . exact uZ h
theorem NX {f i j:Nat} {ns:List Nd} (h:jx L E f i=.ok ns j):ns.length+i <= j:=by
 unfold jx at h
 obtain ⟨_,_,h1,h⟩:=PR.ah h
 obtain ⟨_,_,h2,h⟩:=PR.ah h
 obtain ⟨_,_,h3,h⟩:=PR.ah h
 have:=jV h1; have:=cH h2; have:=FV h3
 obtain ⟨rfl,rfl⟩:=PR.aS h; simp [bU]; omega
theorem Uo:∀ f:Nat,
 (∀ {i j ns},gJ L E f i=.ok ns j->ns.length+i <= j) /\
 (∀ {i at_ acc many j ns},mR L E f at_ acc many i=.ok ns j->ns.length+i <= j+acc.length+(if many=1 then 0 else 1)) /\
 (∀ {i j ns},bw L E f i=.ok ns j->ns.length+i <= j) /\
 (∀ {i lev j ns},dX L E f lev i=.ok ns j->ns.length+i <= j) /\
 (∀ {i lev left j ns},kM L E f lev left i=.ok ns j->ns.length+i <= j+left.length) /\
 (∀ {i j ns},fY L E f i=.ok ns j->ns.length+i <= j) /\
 (∀ {i acc j ns},j9 L E f acc i=.ok ns j->ns.length+i <= j+acc.length) /\
 (∀ {i j ns},iL L E f i=.ok ns j->ns.length+i <= j):=by
 intro f
 induction f with
 | zero=>refine ⟨?_,?_,?_,?_,?_,?_,?_,?_⟩ <;> (intros; rename_i h; first | (rw [gJ] at h; cases h; done) | (rw [mR] at h; cases h; done) | (rw [bw] at h; cases h; done) | (rw [dX] at h; cases h; done) | (rw [kM] at h; cases h; done) | (rw [fY] at h; cases h; done) | (rw [j9] at h; cases h; done) | (rw [iL] at h; cases h; done))
 | succ f ih =>
   obtain ⟨iT,iS,iF,iO,iP,iA,iG,iR⟩:=ih
   refine ⟨?_,?_,?_,?_,?_,?_,?_,?_⟩
   . intro i j ns h
     rw [gJ] at h
     obtain ⟨_,_,h1,h⟩:=PR.ah h
     have:=iF h1; have:=iS h
     simp at this; omega
   . intro i at_ acc many j ns h
     rw [mR] at h
     split at h
     . obtain ⟨_,_,h1,h⟩:=PR.ah h
       have:=iF h1; have:=iS h
       simp only [cM] at this
       split at this <;> split <;> omega
     . obtain ⟨rfl,rfl⟩:=PR.aS h
       split <;> simp [bU] <;> omega
   . intro i j ns h
     rw [bw] at h
     split at h
     . obtain ⟨_,_,h1,h⟩:=PR.ah h
       obtain ⟨_,_,h2,h⟩:=PR.ah h
       obtain ⟨_,_,h3,h⟩:=PR.ah h
       obtain ⟨_,_,h4,h⟩:=PR.ah h
       obtain ⟨_,_,h5,h⟩:=PR.ah h
       have:=iF h1; have:=cH h2; have:=iF h3; have:=cH h4; have:=iF h5
       obtain ⟨rfl,rfl⟩:=PR.aS h; simp [bU]; omega
     split at h
     . obtain ⟨_,_,h1,h⟩:=PR.ah h
       obtain ⟨_,_,h2,h⟩:=PR.ah h
       obtain ⟨_,_,h3,h⟩:=PR.ah h
       have:=iF h1; have:=cH h2; have:=iF h3
       obtain ⟨rfl,rfl⟩:=PR.aS h; simp [bU]; omega
     split at h
     . obtain ⟨_,_,h1,h⟩:=PR.ah h
       obtain ⟨_,_,h2,h⟩:=PR.ah h
       obtain ⟨_,_,h3,h⟩:=PR.ah h
       obtain ⟨_,_,h4,h⟩:=PR.ah h
       obtain ⟨_,_,h5,h⟩:=PR.ah h
       obtain ⟨_,_,h6,h⟩:=PR.ah h
       obtain ⟨_,_,h7,h⟩:=PR.ah h
       have:=jV h1; have:=cH h2; have:=om h3; have:=cH h4; have:=om h5; have:=cH h6; have:=iF h7
       obtain ⟨rfl,rfl⟩:=PR.aS h; simp [bU]; omega
     split at h
     . obtain ⟨_,_,h1,h⟩:=PR.ah h
       obtain ⟨_,_,h2,h⟩:=PR.ah h
       obtain ⟨_,_,h3,h⟩:=PR.ah h
       obtain ⟨_,_,h4,h⟩:=PR.ah h
       obtain ⟨_,_,h5,h⟩:=PR.ah h
       have:=jV h1; have:=cH h2; have:=iF h3; have:=cH h4; have:=iF h5
       obtain ⟨rfl,rfl⟩:=PR.aS h; simp [bU]; omega
     split at h
     . obtain ⟨_,_,h1,h⟩:=PR.ah h
       obtain ⟨_,_,h2,h⟩:=PR.ah h
       obtain ⟨_,_,h3,h⟩:=PR.ah h
       have:=iF h1; have:=cH h2; have:=iF h3
       obtain ⟨rfl,rfl⟩:=PR.aS h; simp [bU]; omega
     split at h
     . obtain ⟨_,_,h1,h⟩:=PR.ah h
       obtain ⟨_,_,h2,h⟩:=PR.ah h
       obtain ⟨_,_,h3,h⟩:=PR.ah h
       obtain ⟨_,_,h4,h⟩:=PR.ah h
       obtain ⟨_,_,h5,h⟩:=PR.ah h
       have:=jV h1; have:=cH h2; have:=om h3; have:=cH h4; have:=iF h5
       obtain ⟨rfl,rfl⟩:=PR.aS h; simp [bU]; omega
     split at h
     . obtain ⟨_,_,h1,h⟩:=PR.ah h
       obtain ⟨_,_,h2,h⟩:=PR.ah h
       obtain ⟨_,_,h3,h⟩:=PR.ah h
       have:=jV h1; have:=cH h2; have:=iF h3
       obtain ⟨rfl,rfl⟩:=PR.aS h; simp [bU]; omega
     . exact iO h
   . intro i lev j ns h
     rw [dX] at h
     split at h
     . exact iA h
     split at h
     . split at h
       . obtain ⟨_,_,h1,h⟩:=PR.ah h
         have:=iO h1
         obtain ⟨rfl,rfl⟩:=PR.aS h; simp [bU]; omega
       . exact iO h
     . obtain ⟨_,_,h1,h⟩:=PR.ah h
       have:=iO h1; have:=iP h
       omega
   . intro i lev left j ns h
     rw [kM] at h
     split at h
     . obtain ⟨rfl,rfl⟩:=PR.aS h; omega
     split at h
     . obtain ⟨_,_,h1,h⟩:=PR.ah h
       have:=om h1; have:=iP h
       simp [bU] at this; omega
     . obtain ⟨_,_,h1,h⟩:=PR.ah h
       have:=iO h1
       split at h
       . obtain ⟨rfl,rfl⟩:=PR.aS h; simp [bU]; omega
       . have:=iP h
         simp [bU] at this; omega
   . intro i j ns h
     rw [fY] at h
     split at h
     . obtain ⟨rfl,rfl⟩:=PR.aS h; simp [bU]; omega
     split at h
     . obtain ⟨rfl,rfl⟩:=PR.aS h; simp [bU]; omega
     split at h
     . obtain ⟨rfl,rfl⟩:=PR.aS h; simp [bU]; omega
     split at h
     . obtain ⟨rfl,rfl⟩:=PR.aS h; simp [bU]; omega
     split at h
     . obtain ⟨_,_,h1,h⟩:=PR.ah h
       have:=jV h1
       obtain ⟨rfl,rfl⟩:=PR.aS h; simp [bU]; omega
     split at h
     . obtain ⟨_,_,h1,h⟩:=PR.ah h
       have:=jV h1
       obtain ⟨rfl,rfl⟩:=PR.aS h; simp [bU]; omega
     split at h
     . obtain ⟨_,_,h1,h⟩:=PR.ah h
       obtain ⟨_,_,h2,h⟩:=PR.ah h
       have:=iT h1; have:=cH h2
       obtain ⟨rfl,rfl⟩:=PR.aS h; omega
     split at h
     . obtain ⟨_,_,h1,h⟩:=PR.ah h
       have:=om h1
       obtain ⟨rfl,rfl⟩:=PR.aS h; simp [bU]; omega
     . obtain ⟨_,_,h1,h⟩:=PR.ah h
       have:=jV h1
       split at h
       . obtain ⟨_,_,h2,h⟩:=PR.ah h
         obtain ⟨_,_,h3,h⟩:=PR.ah h
         obtain ⟨_,_,h4,h⟩:=PR.ah h
         have:=iR h2; have:=iG h3; have:=cH h4
         obtain ⟨rfl,rfl⟩:=PR.aS h; simp [bU]; omega
       . obtain ⟨rfl,rfl⟩:=PR.aS h; simp [bU]; omega
   . intro i acc j ns h
     rw [j9] at h
     split at h
     . obtain ⟨_,_,h1,h⟩:=PR.ah h
       have:=iR h1; have:=iG h
       simp at this; omega
     . obtain ⟨rfl,rfl⟩:=PR.aS h; omega
   . intro i j ns h
     rw [iL] at h
     split at h
     . obtain ⟨_,_,h1,h⟩:=PR.ah h
       obtain ⟨_,_,h2,h⟩:=PR.ah h
       obtain ⟨_,_,h3,h⟩:=PR.ah h
       obtain ⟨_,_,h4,h⟩:=PR.ah h
       have:=cH h1; have:=zH (fun h=>E8 h) h2; have:=cH h3; have:=iF h4
       obtain ⟨rfl,rfl⟩:=PR.aS h; simp [bU]; omega
     split at h
     . obtain ⟨_,_,h1,h⟩:=PR.ah h
       obtain ⟨_,_,h2,h⟩:=PR.ah h
       obtain ⟨_,_,h3,h⟩:=PR.ah h
       obtain ⟨_,_,h4,h⟩:=PR.ah h
       obtain ⟨_,_,h5,h⟩:=PR.ah h
       obtain ⟨_,_,h6,h⟩:=PR.ah h
       obtain ⟨_,_,h7,h⟩:=PR.ah h
       obtain ⟨_,_,h8,h⟩:=PR.ah h
       have:=cH h1; have:=iF h2; have:=cH h3; have:=cH h4; have:=E8 h5; have:=cH h6; have:=iF h7; have:=cH h8
       obtain ⟨rfl,rfl⟩:=PR.aS h; simp [bU]; omega
     . exact iT h
theorem P7 {f i j:Nat} {ns:List Nd} (h:lU L E f i=.ok ns j):ns.length+i <= j:=by
 unfold lU at h
 split at h
 . obtain ⟨_,_,h1,h⟩:=PR.ah h
   obtain ⟨_,_,h2,h⟩:=PR.ah h
   obtain ⟨_,_,h3,h⟩:=PR.ah h
   obtain ⟨_,_,h4,h⟩:=PR.ah h
   have:=jV h1; have:=cH h2; have:=FV h3; have:=cH h4
   obtain ⟨rfl,rfl⟩:=PR.aS h; simp [bU]; omega
 . obtain ⟨k,p,h0,h⟩:=PR.ah h
   obtain ⟨_,_,h1,h⟩:=PR.ah h
   obtain ⟨_,_,h2,h⟩:=PR.ah h
   obtain ⟨_,_,h3,h⟩:=PR.ah h
   obtain ⟨_,_,h4,h⟩:=PR.ah h
   obtain ⟨_,_,h5,h⟩:=PR.ah h
   obtain ⟨_,_,h6,h⟩:=PR.ah h
   obtain ⟨_,_,h7,h⟩:=PR.ah h
   obtain ⟨_,_,h8,h⟩:=PR.ah h
   obtain ⟨_,_,h9,h⟩:=PR.ah h
   have hp:p=i+1:=by
    split at h0
    . exact (PR.aS h0).2.symm
    . obtain ⟨_,_,g1,g2⟩:=PR.ah h0
      have:=cH g1
      have:=(PR.aS g2).2
      omega
   have h3':∀ {a:List Nd} {j q:Nat},(if bf L j cg=true then (PR.ok [] j:PR (List Nd)) else ju L (jx L E f) f j)=.ok a q->a.length+j <= q:=fun h=>by
    split at h
    . obtain ⟨rfl,rfl⟩:=PR.aS h; simp
    . exact zH (fun h=>NX h) h
   have:=jV h1; have:=cH h2; have:=h3' h3; have:=cH h4; have:=cH h5; have:=uZ h6; have:=cH h7; have:=(Uo f).1 h8; have:=cH h9
   obtain ⟨rfl,rfl⟩:=PR.aS h; simp [bU]; omega
end
end Go.Rip
