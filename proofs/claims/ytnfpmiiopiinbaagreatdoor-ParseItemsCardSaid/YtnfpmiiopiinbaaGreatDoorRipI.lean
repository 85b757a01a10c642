/- Lemmas for the proof: no conditions. -/
import Derived.Test.YtnfpmiiopiinbaaGreatDoorRipZz
import Derived.Test.YtnfpmiiopiinbaaGreatDoorRipD
import Derived.Lib.Atoi
set_option linter.unusedVariables false
set_option linter.unusedSimpArgs false
set_option linter.loopingSimpArgs false
namespace Go.Rip
abbrev aQ:=List UInt8
structure Tk where
 k:Nat
 s:aQ
 at_:Nat
 deriving DecidableEq
structure Nd where
 kind:Int
 text:aQ
 n:Int
 m:Int
 at_:Int
 size:Int
 deriving DecidableEq
def fS (c:UInt8):Bool:=decide (48 <= c.toNat/\c.toNat <= 57)
def oF (c:UInt8):Bool:=decide (97 <= c.toNat/\c.toNat <= 122)
def J9 (c:UInt8):Bool:=decide (65 <= c.toNat/\c.toNat <= 90)
def eO (c:UInt8):Bool:=fS c || oF c || J9 c
def pB (c:UInt8):Bool:=decide (c.toNat=10\/32 <= c.toNat/\c.toNat <= 126)
def Gs (s:aQ):Int:=s.foldl (fun n c=>min (10 * n+((c.toNat:Int) - 48)) 1000001) 0
def tQ (s:aQ):Int:=s.foldl (fun n c=>10 * n+((c.toNat:Int) - 48)) 0
def ng (s:aQ):Int:=if s.all fS=false then 4 else if 1 < s.length/\s.head?=some 48 then 4 else if 1000000 < Gs s then 3 else 0
def lH:List aQ:=[wv,yw,B0,nz,kM,EH,j0,uj,fZ,gz,dC,yx,yX,gY,uk,eS,lT,mQ,mg,nL,rM,wx,lU,aeb,Aw,yZ,fA,pS,du,lz]
def nZ:List aQ:=[bX,iq,lS,tH,tF,tG,tE,oK,fy,gd,rL,tI,fG,ff,gX,wu]
def jh (s:aQ):Int × Nat × aQ :=
 let w:=s.takeWhile eO
 match w with
 | []=>match nZ.find? fun x=>x.isPrefixOf s with
   | some x=>(0,4,x)
   | none=>(4,0,[])
 | c::_=>if fS c then (ng w,2,w) else if oF c=false then (4,0,[]) else if w ∈ lH then (0,3,w) else if 12 < w.length then (4,0,[]) else (0,1,w)
inductive EN where
 | ok (l:List Tk)
 | bad (p:Nat) (e:Int)
def mB:Nat->aQ->Nat->List Tk->EN
 | 0,_,_,l=>.ok l
 | f+1,s,p,l=>match s.drop p with
   | []=>.ok l
   | c::r=>if c.toNat=32\/c.toNat=10 then mB f s (p+1) l
     else if c.toNat=126 then mB f s (p+((c::r).takeWhile fun c=>c.toNat ≠ 10).length) l
     else match jh (c::r) with
      | (e,k,t)=>if e ≠ 0 then .bad p e else if l.length=900 then .bad p 5 else mB f s (p+t.length) (l++[⟨k,t,p⟩])
def tO (s:aQ):Nat × Int:=if 2500 < s.length then (0,5) else match s.findIdx? (fun c=>!pB c) with | some i=>(i,2) | none=>(0,0)
def pE (s:aQ):EN:=match tO s with
 | (p,e)=>if e ≠ 0 then .bad p e else mB s.length s 0 []
inductive PR (α:Type) where
 | ok (a:α) (i:Nat)
 | bad (i:Nat)
 | out
def PR.bind {α β:Type} (x:PR α) (f:α->Nat->PR β):PR β:=match x with
 | .ok a i=>f a i
 | .bad i=>.bad i
 | .out=>.out
def node (kind:Int) (text:aQ) (n m at_:Int) (kids:List Nd):List Nd:=⟨kind,text,n,m,at_,(kids.length:Int)+1⟩::kids
section
variable (L:List Tk) (E:Nat)
def fp (i:Nat):Int:=match L[i]? with | some t=>t.at_ | none=>E
def cz (i:Nat) (w:aQ):Bool:=match L[i]? with | some t=>(t.k == 3 || t.k == 4) && t.s == w | none=>false
def tT (i:Nat) (k:Nat):Bool:=match L[i]? with | some t=>t.k == k | none=>false
def Cr (i:Nat):Bool:=cz L i eS || cz L i j0 || cz L i gz
def cT (w:aQ) (i:Nat):PR Unit:=if cz L i w=true then .ok () (i+1) else .bad i
def jX (i:Nat):PR aQ:=match L[i]? with | some t=>if t.k=1 then .ok t.s (i+1) else .bad i | none=>.bad i
def lK (i:Nat):PR Int:=match L[i]? with | some t=>if t.k=2 then .ok (tQ t.s) (i+1) else .bad i | none=>.bad i
def rD (one:Nat->PR (List Nd)):Nat->List Nd->Nat->PR (List Nd)
 | 0,_,_=>.out
 | f+1,acc,i=>if cz L i fG=true then (one (i+1)).bind fun b j=>rD one f (acc++b) j else .ok acc i
def yM (one:Nat->PR (List Nd)) (f:Nat) (i:Nat):PR (List Nd):=(one i).bind fun a j=>rD L one f a j
def AE (i:Nat):PR (List Nd):=(jX L i).bind fun x j=>.ok (node 37 x 0 0 (fp L E i) []) j
def x7 (lev:Nat) (i:Nat):Option Int :=
 if lev=2 then if cz L i Aw=true then some 17 else none
 else if lev=3 then if cz L i wv=true then some 18 else none
 else if lev=5 then if cz L i lS=true then some 20 else if cz L i tH=true then some 21 else none
 else if lev=6 then if cz L i tF=true then some 22 else if cz L i tG=true then some 23 else none
 else if lev=7 then if cz L i tE=true then some 24 else none
 else if lev=8 then if cz L i yw=true then some 25 else none
 else none
mutual
def rJ:Nat->Nat->PR (List Nd)
 | 0,_=>.out
 | f+1,i=>(cB f i).bind fun a j=>Aq f (fp L E j) a 1 j
def Aq:Nat->Int->List Nd->Nat->Nat->PR (List Nd)
 | 0,_,_,_,_=>.out
 | f+1,at_,acc,many,i=>if cz L i ff=true/\i+1 < L.length/\Cr L (i+1)=false then (cB f (i+1)).bind fun b j=>Aq f at_ (acc++b) (many+1) j
   else .ok (if many=1 then acc else node 9 [] 0 0 at_ acc) i
def cB:Nat->Nat->PR (List Nd)
 | 0,_=>.out
 | f+1,i =>
   if cz L i uk=true then (cB f (i+1)).bind fun c j=>(cT L pS j).bind fun _ j=>(cB f j).bind fun a j=>(cT L fZ j).bind fun _ j=>(cB f j).bind fun b j=>.ok (node 10 [] 0 0 (fp L E i) (c++a++b)) j
   else if cz L i lz=true then (cB f (i+1)).bind fun a j=>(cT L uj j).bind fun _ j=>(cB f j).bind fun b j=>.ok (node 11 [] 0 0 (fp L E i) (a++b)) j
   else if cz L i rM=true then (jX L (i+1)).bind fun x j=>(cT L gX j).bind fun _ j=>(lK L j).bind fun n j=>(cT L bX j).bind fun _ j=>(lK L j).bind fun m j=>(cT L lT j).bind fun _ j=>(cB f j).bind fun a j=>.ok (node 12 x n m (fp L E i) a) j
   else if cz L i nL=true then (jX L (i+1)).bind fun x j=>(cT L lT j).bind fun _ j=>(cB f j).bind fun a j=>(cT L fZ j).bind fun _ j=>(cB f j).bind fun b j=>.ok (node 13 x 0 0 (fp L E i) (a++b)) j
   else if cz L i kM=true then (cB f (i+1)).bind fun a j=>(cT L fZ j).bind fun _ j=>(cB f j).bind fun b j=>.ok (node 15 [] 0 0 (fp L E i) (a++b)) j
   else if cz L i lU=true then (jX L (i+1)).bind fun x j=>(cT L bX j).bind fun _ j=>(lK L j).bind fun n j=>(cT L lT j).bind fun _ j=>(cB f j).bind fun a j=>.ok (node 14 x n 0 (fp L E i) a) j
   else if tT L i 1=true/\cz L (i+1) bX=true then (jX L i).bind fun x j=>(cT L bX j).bind fun _ j=>(cB f j).bind fun a j=>.ok (node 16 x 0 0 (fp L E i) a) j
   else ku f 2 i
def ku:Nat->Nat->Nat->PR (List Nd)
 | 0,_,_=>.out
 | f+1,lev,i =>
   if lev=9 then vn f i
   else if lev=4 then if cz L i wx=true then (ku f 4 (i+1)).bind fun a j=>.ok (node 19 [] 0 0 (fp L E i) a) j else ku f 5 i
   else (ku f (lev+1) i).bind fun a j=>tZ f lev a j
def tZ:Nat->Nat->List Nd->Nat->PR (List Nd)
 | 0,_,_,_=>.out
 | f+1,lev,left,i=>match x7 L lev i with
   | none=>.ok left i
   | some kind=>if lev=8 then (lK L (i+1)).bind fun n j=>tZ f lev (node kind [] n 0 (fp L E i) left) j
     else (ku f (lev+1) (i+1)).bind fun b j=>if lev=5 then .ok (node kind [] 0 0 (fp L E i) (left++b)) j else tZ f lev (node kind [] 0 0 (fp L E i) (left++b)) j
def vn:Nat->Nat->PR (List Nd)
 | 0,_=>.out
 | f+1,i =>
   if cz L i du=true then .ok (node 27 [] 0 0 (fp L E i) []) (i+1)
   else if cz L i dC=true then .ok (node 28 [] 0 0 (fp L E i) []) (i+1)
   else if cz L i fA=true then .ok (node 29 [] 0 0 (fp L E i) []) (i+1)
   else if cz L i gY=true then .ok (node 30 [] 0 0 (fp L E i) []) (i+1)
   else if cz L i mg=true then (jX L (i+1)).bind fun x j=>.ok (node 31 x 0 0 (fp L E i) []) j
   else if cz L i oK=true then (jX L (i+1)).bind fun x j=>.ok (node 32 x 0 0 (fp L E i) []) j
   else if cz L i fy=true then (rJ f (i+1)).bind fun a j=>(cT L gd j).bind fun _ j=>.ok a j
   else if tT L i 2=true then (lK L i).bind fun n j=>.ok (node 26 [] n 0 (fp L E i) []) j
   else (jX L i).bind fun x j=>if cz L j fy=true then (nR f (j+1)).bind fun a j=>(rn f a j).bind fun a j=>(cT L gd j).bind fun _ j=>.ok (node 34 x 0 0 (fp L E i) a) j
    else .ok (node 33 x 0 0 (fp L E i) []) j
def rn:Nat->List Nd->Nat->PR (List Nd)
 | 0,_,_=>.out
 | f+1,acc,i=>if cz L i fG=true then (nR f (i+1)).bind fun b j=>rn f (acc++b) j else .ok acc i
def nR:Nat->Nat->PR (List Nd)
 | 0,_=>.out
 | f+1,i =>
   if cz L i yx=true then (cT L fy (i+1)).bind fun _ j=>(yM L (AE L E) (L.length+1) j).bind fun a j=>(cT L gd j).bind fun _ j=>(cB f j).bind fun b j=>.ok (node 35 [] 0 0 (fp L E i) (a++b)) j
   else if cz L i rL=true then (cT L yX (i+1)).bind fun _ j=>(cB f j).bind fun a j=>(cT L ff j).bind fun _ j=>(cT L yZ j).bind fun _ j=>(AE L E j).bind fun b j=>(cT L wu j).bind fun _ j=>(cB f j).bind fun c j=>(cT L tI j).bind fun _ j=>.ok (node 36 [] 0 0 (fp L E i) (a++b++c)) j
   else rJ f i
end
def fuel:Nat:=40 * (L.length+2)
end
end Go.Rip
namespace Go.Rip
def Gd {α:Type} (n lo lb:Nat):PR α->Prop
 | .ok _ j=>lo <= j/\j <= n
 | .bad j=>lb <= j/\j <= n
 | .out=>False
section
variable {α β:Type} {n lo DH lb i:Nat} {L:List Tk} {E:Nat}
theorem Gd.bind {x:PR α} {f:α->Nat->PR β} (h:Gd n lo lb x) (k:∀ a j,lo <= j->j <= n->Gd n DH lb (f a j)):Gd n DH lb (x.bind f):=by
 cases x with
 | ok a j=>exact k a j h.1 h.2
 | bad j=>exact h
 | out=>exact h.elim
theorem Gd.ite {c:Prop} [Decidable c] {x y:PR α} (h:c->Gd n lo lb x) (k:¬ c->Gd n lo lb y):Gd n lo lb (if c then x else y):=by
 split
 . exact h ‹_›
 . exact k ‹_›
theorem Gd.low {x:PR α} (h:Gd n lo lb x) (k:DH <= lo):Gd n DH lb x:=by
 cases x with
 | ok a j=>exact ⟨Nat.le_trans k h.1,h.2⟩
 | bad j=>exact h
 | out=>exact h
theorem Gd.Rq {lb':Nat} {x:PR α} (h:Gd n lo lb x) (k:lb' <= lb):Gd n lo lb' x:=by
 cases x with
 | ok a j=>exact h
 | bad j=>exact ⟨Nat.le_trans k h.1,h.2⟩
 | out=>exact h
theorem Gd.at' {lb':Nat} {x:PR α} (h:Gd n lo lb x) (k:DH <= lo) (k':lb' <= lb):Gd n DH lb' x:=(h.low k).Rq k'
theorem dy {w:aQ} (h:cz L i w=true):i < L.length:=by
 unfold cz at h
 split at h
 . rename_i t ht; exact (c8.1 ht).1
 . cases h
theorem UI {k:Nat} (h:tT L i k=true):i < L.length:=by
 unfold tT at h
 split at h
 . rename_i t ht; exact (c8.1 ht).1
 . cases h
theorem eB {w:aQ} (h:i <= L.length):Gd L.length (i+1) i (cT L w i):=by
 unfold cT
 exact .ite (fun c=>⟨dk _,dy c⟩) fun _=>⟨dk _,h⟩
theorem nf (h:i <= L.length):Gd L.length (i+1) i (jX L i):=by
 unfold jX
 split
 . rename_i t ht
   have:=(c8.1 ht).1
   exact .ite (fun c=>⟨dk _,this⟩) fun _=>⟨dk _,h⟩
 . exact ⟨dk _,h⟩
theorem su (h:i <= L.length):Gd L.length (i+1) i (lK L i):=by
 unfold lK
 split
 . rename_i t ht
   have:=(c8.1 ht).1
   exact .ite (fun c=>⟨dk _,this⟩) fun _=>⟨dk _,h⟩
 . exact ⟨dk _,h⟩
theorem Gm {one:Nat->PR (List Nd)} (h1:∀ i,i <= L.length->Gd L.length (i+1) i (one i)):∀ (f:Nat) (acc:List Nd) (i:Nat),i <= L.length->L.length - i < f->Gd L.length i i (rD L one f acc i)
 | 0,acc,i,hi,hf=>by omega
 | f+1,acc,i,hi,hf=>by
   unfold rD
   refine .ite (fun c=>?_) fun _=>⟨dk _,hi⟩
   have:=dy c
   refine ((h1 (i+1) this).Rq (lb':=i) (by omega)).bind fun b j h2 h3=>?_
   exact (Gm h1 f _ j h3 (by omega)).at' (by omega) (by omega)
theorem Rl {one:Nat->PR (List Nd)} (h1:∀ i,i <= L.length->Gd L.length (i+1) i (one i)) {f:Nat} (hi:i <= L.length) (hf:L.length - i <= f) (h0:0 < f):Gd L.length (i+1) i (yM L one f i):=by
 unfold yM
 refine (h1 i hi).bind fun a j h2 h3=>?_
 exact (Gm h1 f _ j h3 (by omega)).at' (by omega) (by omega)
theorem vo (h:i <= L.length):Gd L.length (i+1) i (AE L E i):=by
 unfold AE
 exact (nf h).bind fun a j h2 h3=>⟨h2,h3⟩
theorem Gd.step {lo1 lb1:Nat} {x:PR α} {f:α->Nat->PR β} (h:Gd n lo1 lb1 x) (hb:lb <= lb1) (k:∀ a j,lo1 <= j->j <= n->Gd n DH lb (f a j)):Gd n DH lb (x.bind f):=(h.Rq hb).bind k
theorem I7 {lev:Nat} {k:Int} (h:x7 L lev i=some k):i < L.length:=by
 unfold x7 at h
 repeat' (split at h)
 all_goals first
  | (cases h; done)
  | exact dy ‹_›
theorem Cj:∀ f:Nat,
 (∀ i,i <= L.length->40 * (L.length - i)+11 <= f->Gd L.length (i+1) i (rJ L E f i)) /\
 (∀ i at_ acc many,i <= L.length->40 * (L.length - i)+1 <= f->Gd L.length i i (Aq L E f at_ acc many i)) /\
 (∀ i,i <= L.length->40 * (L.length - i)+10 <= f->Gd L.length (i+1) i (cB L E f i)) /\
 (∀ i lev,i <= L.length->lev <= 9->40 * (L.length - i)+(11 - lev) <= f->Gd L.length (i+1) i (ku L E f lev i)) /\
 (∀ i lev left,i <= L.length->lev <= 8->40 * (L.length - i)+1 <= f->Gd L.length i i (tZ L E f lev left i)) /\
 (∀ i,i <= L.length->40 * (L.length - i)+1 <= f->Gd L.length (i+1) i (vn L E f i)) /\
 (∀ i acc,i <= L.length->40 * (L.length - i)+1 <= f->Gd L.length i i (rn L E f acc i)) /\
 (∀ i,i <= L.length->40 * (L.length - i)+12 <= f->Gd L.length (i+1) i (nR L E f i)):=by
 intro f
 induction f with
 | zero=>refine ⟨?_,?_,?_,?_,?_,?_,?_,?_⟩ <;> intros <;> omega
 | succ f ih =>
   obtain ⟨iT,iS,iF,iO,iP,iA,iG,iR⟩:=ih
   refine ⟨?_,?_,?_,?_,?_,?_,?_,?_⟩
   . intro i hi hf
     rw [rJ]
     refine (iF i hi (by omega)).bind fun a j h1 h2=>?_
     exact (iS j _ _ _ h2 (by omega)).at' (by omega) (by omega)
   . intro i at_ acc many hi hf
     rw [Aq]
     refine .ite (fun c=>?_) fun _=>⟨dk _,hi⟩
     have h0:=dy c.1
     refine (iF (i+1) (by omega) (by omega)).step (by omega) fun a j h1 h2=>?_
     exact (iS j _ _ _ h2 (by omega)).at' (by omega) (by omega)
   . intro i hi hf
     rw [cB]
     refine .ite (fun c=>?_) fun _=>.ite (fun c=>?_) fun _=>.ite (fun c=>?_) fun _=>.ite (fun c=>?_) fun _=>.ite (fun c=>?_) fun _=>.ite (fun c=>?_) fun _=>.ite (fun c=>?_) fun _=>?_
     . have h0:=dy c
       refine (iF (i+1) (by omega) (by omega)).step (by omega) fun a j h1 h2=>(eB h2).step (by omega) fun a j h3 h4=>(iF j (by omega) (by omega)).step (by omega) fun a j h5 h6=>(eB h6).step (by omega) fun a j h7 h8=>(iF j (by omega) (by omega)).step (by omega) fun a j h9 o0=>⟨by omega,o0⟩
     . have h0:=dy c
       exact (iF (i+1) (by omega) (by omega)).step (by omega) fun a j h1 h2=>(eB h2).step (by omega) fun a j h3 h4=>(iF j (by omega) (by omega)).step (by omega) fun a j h5 h6=>⟨by omega,h6⟩
     . have h0:=dy c
       exact (nf h0).step (by omega) fun a j h1 h2=>(eB h2).step (by omega) fun a j h3 h4=>(su h4).step (by omega) fun a j h5 h6=>(eB h6).step (by omega) fun a j h7 h8=>(su h8).step (by omega) fun a j h9 o0=>(eB o0).step (by omega) fun a j wI xD=>(iF j (by omega) (by omega)).step (by omega) fun a j h13 Xx=>⟨by omega,Xx⟩
     . have h0:=dy c
       exact (nf h0).step (by omega) fun a j h1 h2=>(eB h2).step (by omega) fun a j h3 h4=>(iF j (by omega) (by omega)).step (by omega) fun a j h5 h6=>(eB h6).step (by omega) fun a j h7 h8=>(iF j (by omega) (by omega)).step (by omega) fun a j h9 o0=>⟨by omega,o0⟩
     . have h0:=dy c
       exact (iF (i+1) (by omega) (by omega)).step (by omega) fun a j h1 h2=>(eB h2).step (by omega) fun a j h3 h4=>(iF j (by omega) (by omega)).step (by omega) fun a j h5 h6=>⟨by omega,h6⟩
     . have h0:=dy c
       exact (nf h0).step (by omega) fun a j h1 h2=>(eB h2).step (by omega) fun a j h3 h4=>(su h4).step (by omega) fun a j h5 h6=>(eB h6).step (by omega) fun a j h7 h8=>(iF j (by omega) (by omega)).step (by omega) fun a j h9 o0=>⟨by omega,o0⟩
     . have h0:=UI c.1
       exact (nf hi).step (by omega) fun a j h1 h2=>(eB h2).step (by omega) fun a j h3 h4=>(iF j (by omega) (by omega)).step (by omega) fun a j h5 h6=>⟨by omega,h6⟩
     . exact iO i 2 hi (by omega) (by omega)
   . intro i lev hi hl hf
     rw [ku]
     refine .ite (fun c=>?_) fun c9=>.ite (fun c=>.ite (fun d=>?_) fun d=>?_) fun c4=>?_
     . exact iA i hi (by omega)
     . have h0:=dy d
       exact (iO (i+1) 4 (by omega) (by omega) (by omega)).step (by omega) fun a j h1 h2=>⟨by omega,h2⟩
     . exact iO i 5 hi (by omega) (by omega)
     . refine (iO i (lev+1) hi (by omega) (by omega)).bind fun a j h1 h2=>?_
       exact (iP j lev a h2 (by omega) (by omega)).at' (by omega) (by omega)
   . intro i lev left hi hl hf
     rw [tZ]
     split
     . exact ⟨dk _,hi⟩
     . rename_i k hk
       have h0:=I7 hk
       refine .ite (fun c=>?_) fun c=>?_
       . exact (su h0).step (by omega) fun a j h1 h2=>(iP j lev _ h2 hl (by omega)).at' (by omega) (by omega)
       . refine (iO (i+1) (lev+1) h0 (by omega) (by omega)).step (by omega) fun a j h1 h2=>.ite (fun _=>⟨by omega,h2⟩) fun _=>?_
         exact (iP j lev _ h2 hl (by omega)).at' (by omega) (by omega)
   . intro i hi hf
     rw [vn]
     refine .ite (fun c=>⟨dk _,dy c⟩) fun _=>.ite (fun c=>⟨dk _,dy c⟩) fun _=>.ite (fun c=>⟨dk _,dy c⟩) fun _=>.ite (fun c=>⟨dk _,dy c⟩) fun _=>.ite (fun c=>?_) fun _=>.ite (fun c=>?_) fun _=>.ite (fun c=>?_) fun _=>.ite (fun c=>?_) fun _=>?_
     . have h0:=dy c
       exact (nf h0).step (by omega) fun a j h1 h2=>⟨by omega,h2⟩
     . have h0:=dy c
       exact (nf h0).step (by omega) fun a j h1 h2=>⟨by omega,h2⟩
     . have h0:=dy c
       exact (iT (i+1) (by omega) (by omega)).step (by omega) fun a j h1 h2=>(eB h2).step (by omega) fun a j h3 h4=>⟨by omega,h4⟩
     . exact (su hi).step (by omega) fun a j h1 h2=>⟨by omega,h2⟩
     . refine (nf hi).step (by omega) fun a j h1 h2=>.ite (fun c=>?_) fun _=>⟨by omega,h2⟩
       have h0:=dy c
       exact (iR (j+1) (by omega) (by omega)).step (by omega) fun a j h3 h4=>(iG j _ h4 (by omega)).step (by omega) fun a j h5 h6=>(eB h6).step (by omega) fun a j h7 h8=>⟨by omega,h8⟩
   . intro i acc hi hf
     rw [rn]
     refine .ite (fun c=>?_) fun _=>⟨dk _,hi⟩
     have h0:=dy c
     exact (iR (i+1) (by omega) (by omega)).step (by omega) fun a j h1 h2=>(iG j _ h2 (by omega)).at' (by omega) (by omega)
   . intro i hi hf
     rw [nR]
     refine .ite (fun c=>?_) fun _=>.ite (fun c=>?_) fun _=>?_
     . have h0:=dy c
       exact (eB h0).step (by omega) fun a j h1 h2=>(Rl (fun i hi=>vo hi) h2 (by omega) (by omega)).step (by omega) fun a j h3 h4=>(eB h4).step (by omega) fun a j h5 h6=>(iF j (by omega) (by omega)).step (by omega) fun a j h7 h8=>⟨by omega,h8⟩
     . have h0:=dy c
       exact (eB h0).step (by omega) fun a j h1 h2=>(iF j (by omega) (by omega)).step (by omega) fun a j h3 h4=>(eB h4).step (by omega) fun a j h5 h6=>(eB h6).step (by omega) fun a j h7 h8=>(vo h8).step (by omega) fun a j h9 o0=>(eB o0).step (by omega) fun a j wI xD=>(iF j (by omega) (by omega)).step (by omega) fun a j h13 Xx=>(eB Xx).step (by omega) fun a j h15 h16=>⟨by omega,h16⟩
     . exact iT i hi (by omega)
end
end Go.Rip
namespace Go.Rip
def qM (t:Tk):Prop:=t.s ≠ []/\jh t.s=(0,t.k,t.s)
theorem u7 (p:UInt8->Bool):∀ l:aQ,(l.takeWhile p).takeWhile p=l.takeWhile p
 | []=>rfl
 | c::l=>by
   simp only [pK]
   cases h:p c with
   | true=>simp [h,u7 p l]
   | false=>rfl
theorem GL:∀ x ∈ nZ,jh x=(0,4,x)/\x ≠ []:=by decide
theorem CP {s:aQ} {k:Nat} {t:aQ} (h:jh s=(0,k,t)):qM ⟨k,t,0⟩/\t <+: s:=by
 have hid:=u7 eO s
 have nU:=uc eO (l:=s)
 unfold jh at h
 simp only at h
 split at h
 . rename_i hw
   split at h
   . rename_i x hx
     simp only [ik,true_and] at h
     obtain ⟨rfl,rfl⟩:=h
     have hm:=List.mem_of_find?_eq_some hx
     have hp:=List.find?_some hx
     exact ⟨⟨(GL _ hm).2,(GL _ hm).1⟩,List.isPrefixOf_iff_prefix.1 hp⟩
   . simp at h
 . rename_i c r hw
   have key:∀ {e:Int} {k:Nat},jh (s.takeWhile eO)=(e,k,s.takeWhile eO)->e=0->qM ⟨k,s.takeWhile eO,0⟩/\s.takeWhile eO <+: s:=fun h1 h2=>⟨⟨by simp [hw],by rw [h1,h2]⟩,nU⟩
   split at h
   . rename_i hd
     simp only [ik] at h
     obtain ⟨h1,rfl,rfl⟩:=h
     refine key ?_ h1
     unfold jh
     simp only [hid]
     rw [hw]
     simp only [if_pos hd]
   . rename_i hd
     split at h
     . simp at h
     . rename_i hs
       split at h
       . rename_i hk
         simp only [ik,true_and] at h
         obtain ⟨rfl,rfl⟩:=h
         refine key ?_ rfl
         unfold jh
         simp only [hid]
         rw [hw] at hk ⊢
         simp only [if_neg hd,if_neg hs,if_pos hk]
       . rename_i hk
         split at h
         . simp at h
         . rename_i hl
           simp only [ik,true_and] at h
           obtain ⟨rfl,rfl⟩:=h
           refine key ?_ rfl
           unfold jh
           simp only [hid]
           rw [hw] at hk hl ⊢
           simp only [if_neg hd,if_neg hs,if_neg hk,if_neg hl]
theorem yL:∀ (f:Nat) (s:aQ) (p:Nat) (l:List Tk) {L:List Tk},mB f s p l=.ok L->(∀ t ∈ l,qM t)->l.length <= 900->(∀ t ∈ L,qM t)/\L.length <= 900
 | 0,s,p,l,L,h,hl,hn=>by simp only [mB,EN.ok.injEq] at h; subst h; exact ⟨hl,hn⟩
 | f+1,s,p,l,L,h,hl,hn=>by
   simp only [mB] at h
   split at h
   . simp only [EN.ok.injEq] at h; subst h; exact ⟨hl,hn⟩
   . split at h
     . exact yL f s _ l h hl hn
     . split at h
       . exact yL f s _ l h hl hn
       . split at h
         . cases h
         . rename_i he
           split at h
           . cases h
           . rename_i hc
             refine yL f s _ _ h (fun t ht=>?_) (by simp; omega)
             simp only [fB,jg] at ht
             rcases ht with ht | rfl
             . exact hl t ht
             . have kO:(jh _).1=0:=Decidable.not_not.1 he
               exact (CP (Prod.ext kO rfl)).1
theorem UT {s:aQ} {L:List Tk} (h:pE s=.ok L):(∀ t ∈ L,qM t)/\L.length <= 900:=by
 unfold pE at h
 split at h
 split at h
 . cases h
 . exact yL _ _ _ _ h (by simp) (by simp)
end Go.Rip
namespace Go.Rip
def iI (a:Int) (s:aQ):Int:=s.foldl (fun n c=>min (10 * n+((c.toNat:Int) - 48)) 1000001) a
def pk (a:Int) (s:aQ):Int:=s.foldl (fun n c=>10 * n+((c.toNat:Int) - 48)) a
theorem kn {c:UInt8}:fS c=true ↔ 48 <= c.toNat/\c.toNat <= 57:=by simp [fS]
theorem Cz:∀ (s:aQ) (a:Int),a <= 1000001->iI a s <= 1000001
 | [],a,h=>h
 | c::s,a,h=>Cz s (min (10 * a+((c.toNat:Int) - 48)) 1000001) (by omega)
theorem rS:∀ (s:aQ) (a:Int),s.all fS=true->0 <= a->min a 1000001 <= iI a s
 | [],a,_,h=>by simp [iI]; omega
 | c::s,a,hd,h=>by
   simp only [List.all_cons,bL] at hd
   have h1:=kn.1 hd.1
   have:=rS s (min (10 * a+((c.toNat:Int) - 48)) 1000001) hd.2 (by omega)
   have e:iI a (c::s)=iI (min (10 * a+((c.toNat:Int) - 48)) 1000001) s:=rfl
   omega
theorem DM:∀ (s:aQ) (a:Int),s.all fS=true->0 <= a->iI a s <= 1000000->iI a s=pk a s
 | [],a,_,_,_=>rfl
 | c::s,a,hd,h,hl=>by
   simp only [List.all_cons,bL] at hd
   have h1:=kn.1 hd.1
   have e:iI a (c::s)=iI (min (10 * a+((c.toNat:Int) - 48)) 1000001) s:=rfl
   have e2:pk a (c::s)=pk (10 * a+((c.toNat:Int) - 48)) s:=rfl
   have hg:=rS s (min (10 * a+((c.toNat:Int) - 48)) 1000001) hd.2 (by omega)
   have hm:min (10 * a+((c.toNat:Int) - 48)) 1000001=10 * a+((c.toNat:Int) - 48):=by omega
   rw [hm] at e
   rw [e,e2]
   exact DM s _ hd.2 (by omega) (by omega)
theorem Gr:∀ (s:aQ) (a:Int),s.all fS=true->1 <= a->iI a s <= 1000000->10 ^ s.length * a <= iI a s
 | [],a,_,_,_=>by simp [iI]
 | c::s,a,hd,h,hl=>by
   simp only [List.all_cons,bL] at hd
   have h1:=kn.1 hd.1
   have e:iI a (c::s)=iI (min (10 * a+((c.toNat:Int) - 48)) 1000001) s:=rfl
   have hg:=rS s (min (10 * a+((c.toNat:Int) - 48)) 1000001) hd.2 (by omega)
   have hm:min (10 * a+((c.toNat:Int) - 48)) 1000001=10 * a+((c.toNat:Int) - 48):=by omega
   rw [hm] at e
   rw [e] at hl ⊢
   have:=Gr s _ hd.2 (by omega) hl
   have hp:(0:Int) < 10 ^ s.length:=Int.pow_pos (by omega)
   have:10 ^ s.length * (10 * a) <= 10 ^ s.length * (10 * a+((c.toNat:Int) - 48)):=Int.mul_le_mul_of_nonneg_left (by omega) (by omega)
   rw [jf,Int.pow_succ,Int.mul_assoc]
   omega
theorem IX {s:aQ} (h:ng s=0):s.all fS=true/\¬ (1 < s.length/\s.head?=some 48)/\Gs s <= 1000000:=by
 unfold ng at h
 split at h
 . cases h
 . rename_i h1
   split at h
   . cases h
   . rename_i h2
     split at h
     . cases h
     . rename_i h3; exact ⟨by simpa using h1,h2,by omega⟩
theorem DN {s:aQ} (h0:s ≠ []) (h:ng s=0):1 <= s.length/\s.length <= 7/\Gs s=tQ s/\0 <= tQ s/\tQ s <= 1000000:=by
 obtain ⟨h1,h2,h3⟩:=IX h
 have hv:Gs s=iI 0 s:=rfl
 have hd:tQ s=pk 0 s:=rfl
 have e:=DM s 0 h1 (by omega) (by omega)
 have hg:=rS s 0 h1 (by omega)
 refine ⟨?_,?_,by omega,by omega,by omega⟩
 . cases s with
   | nil=>exact absurd rfl h0
   | cons c s=>simp
 . cases s with
   | nil=>simp
   | cons c s =>
     simp only [List.all_cons,bL] at h1
     have hc:=kn.1 h1.1
     rcases je s.length 1 with hl | hl
     . simp; omega
     . have Iu:c ≠ 48:=fun e=>h2 ⟨by simp; omega,by simp [e]⟩
       have uF:c.toNat ≠ 48:=fun e=>Iu (by apply UInt8.toNat_inj.1; simpa using e)
       have e1:iI 0 (c::s)=iI ((c.toNat:Int) - 48) s:=by
        show iI (min (10 * 0+((c.toNat:Int) - 48)) 1000001) s=_
        congr 1; omega
       have hlen:=Gr s ((c.toNat:Int) - 48) h1.2 (by omega) (by omega)
       rcases je s.length 7 with hl | hl
       . simp; omega
       . exfalso
         have h7:(10:Int) ^ 7 <= 10 ^ s.length:=by
          have:=Nat.pow_le_pow_right (n:=10) (by omega) hl
          exact_mod_cast this
         have:(10:Int) ^ s.length * 1 <= 10 ^ s.length * ((c.toNat:Int) - 48):=Int.mul_le_mul_of_nonneg_left (by omega) (by omega)
         omega
theorem G2 {s:aQ} (h:jh s=(0,2,s)) (h0:s ≠ []):ng s=0:=by
 unfold jh at h
 simp only at h
 split at h
 . split at h <;> simp at h
 . rename_i c r hw
   split at h
   . simp only [ik,true_and] at h
     rw [h.2] at h; exact h.1
   . split at h
     . simp at h
     . split at h
       . simp at h
       . split at h <;> simp at h
theorem U3 {t:Tk} (h:qM t) (hk:t.k=2):ng t.s=0:=G2 (by rw [h.2,hk]) h.1
theorem za:∀ (s:aQ) (a:Nat),s.all fS=true->∃ m,Lib.decFrom a s=some m/\(m:Int)=pk a s
 | [],a,_=>⟨a,rfl,rfl⟩
 | c::s,a,h=>by
   simp only [List.all_cons,bL] at h
   have hc:=kn.1 h.1
   obtain ⟨m,h1,h2⟩:=za s (a * 10+(c.toNat - 48)) h.2
   refine ⟨m,?_,?_⟩
   . simp only [Lib.decFrom,Lib.digitVal,if_pos hc]; exact h1
   . rw [h2]
     show pk _ s=pk (10 * (a:Int)+((c.toNat:Int) - 48)) s
     congr 1; omega
theorem Qj {s:aQ} (h0:s ≠ []) (h:s.all fS=true):Lib.atoi s=some (tQ s):=by
 cases s with
 | nil=>exact absurd rfl h0
 | cons c s =>
   have h':=h
   simp only [List.all_cons,bL] at h'
   have hc:=kn.1 h'.1
   obtain ⟨m,h1,h2⟩:=za (c::s) 0 h
   have c45:(c == 45)=false:=by simp; rintro rfl; simp at hc
   have c43:(c == 43)=false:=by simp; rintro rfl; simp at hc
   simp only [Lib.atoi,c45,c43,bJ,if_false,Lib.decNat,List.isEmpty_cons,h1,Option.map_some,gK]
   exact h2
end Go.Rip
namespace Go.Rip
theorem tB {s:aQ} {k:Nat} {t:aQ} (h:jh s=(0,k,t)):(k=1/\t ∉ lH/\t.length <= 12/\(∃ c r,t=c::r/\oF c=true)/\t.all eO=true)\/(k=2/\∃ c r,t=c::r/\fS c=true)\/(k=3/\t ∈ lH)\/(k=4/\t ∈ nZ):=by
 have bO:(s.takeWhile eO).all eO=true:=by
  rw [eC]; intro x hx
  have:∀ l:aQ,x ∈ l.takeWhile eO->eO x=true:=fun l=>by
   induction l with
   | nil=>simp
   | cons c l ih =>
     simp only [pK]
     split
     . rename_i hc
       intro h
       rcases cD.1 h with rfl | h
       . exact hc
       . exact ih h
     . simp
  exact this s hx
 unfold jh at h
 simp only at h
 split at h
 . split at h
   . rename_i x hx
     simp only [ik,true_and] at h
     obtain ⟨rfl,rfl⟩:=h
     exact .inr (.inr (.inr ⟨rfl,List.mem_of_find?_eq_some hx⟩))
   . simp at h
 . rename_i c r hw
   split at h
   . rename_i hd
     simp only [ik] at h
     obtain ⟨h1,rfl,rfl⟩:=h
     exact .inr (.inl ⟨rfl,c,r,hw,hd⟩)
   . split at h
     . simp at h
     . rename_i hs
       split at h
       . rename_i hk
         simp only [ik,true_and] at h
         obtain ⟨rfl,rfl⟩:=h
         exact .inr (.inr (.inl ⟨rfl,hk⟩))
       . rename_i hk
         split at h
         . simp at h
         . rename_i hl
           simp only [ik,true_and] at h
           obtain ⟨rfl,rfl⟩:=h
           exact .inl ⟨rfl,hk,by omega,⟨c,r,hw,by simpa using hs⟩,bO⟩
theorem qM.cases {t:Tk} (h:qM t):(t.k=1/\t.s ∉ lH)\/t.k=2\/(t.k=3/\t.s ∈ lH)\/(t.k=4/\t.s ∈ nZ):=by
 rcases tB h.2 with h | h | h | h
 . exact .inl ⟨h.1,h.2.1⟩
 . exact .inr (.inl h.1)
 . exact .inr (.inr (.inl h))
 . exact .inr (.inr (.inr h))
theorem Kj:∀ w ∈ lH,w ∉ nZ:=by decide
theorem MN {L:List Tk} {i:Nat} {w:aQ} (h:cz L i w=true):∃ t,L[i]?=some t/\(t.k=3\/t.k=4)/\t.s=w:=by
 unfold cz at h
 split at h
 . rename_i t ht
   simp only [bL,iL,beq_iff_eq] at h
   exact ⟨t,ht,h.1,h.2⟩
 . cases h
theorem UK {L:List Tk} {i:Nat} {w:aQ} {t:Tk} (ht:L[i]?=some t) (hk:t.k=3\/t.k=4) (hs:t.s=w):cz L i w=true:=by
 unfold cz; rw [ht]; simp [hs,hk]
theorem UJ {L:List Tk} (hL:∀ t ∈ L,qM t) {i:Nat} {w:aQ} (hw:w ∈ lH) (h:cz L i w=true):∃ t,L[i]?=some t/\t.k=3/\t.s=w:=by
 obtain ⟨t,ht,hk,hs⟩:=MN h
 refine ⟨t,ht,?_,hs⟩
 rcases hk with hk | hk
 . exact hk
 . rcases (hL t (fj ht)).cases with h | h | h | h
   . omega
   . omega
   . omega
   . rw [hs] at h; exact absurd h.2 (Kj w hw)
def qj (o:Option Tk):aQ:=match o with | some t=>if t.k=3\/t.k=4 then t.s else [] | none=>[]
theorem Dx {L:List Tk} {i:Nat} {w:aQ} (hw:w ≠ []):cz L i w=decide (qj L[i]?=w):=by
 unfold cz qj
 split
 . rename_i t ht
   by_cases h:t.k=3\/t.k=4
   . by_cases hs:t.s=w <;> simp [ht,h,hs]
   . have h3:¬ t.k=3:=fun e=>h (.inl e)
     have h4:¬ t.k=4:=fun e=>h (.inr e)
     simp [ht,h3,h4,Ne.symm hw]
 . rename_i ht; simp [ht,Ne.symm hw]
end Go.Rip
