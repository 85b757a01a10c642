/- Lemmas for the proof: no conditions. -/
import Derived.Test.YtnfpmiiopiinbaaGreatDoorRipZz
import Derived.Test.YtnfpmiiopiinbaaGreatDoorRipD
import Derived.Lib.Atoi
set_option linter.unusedVariables false
set_option linter.unusedSimpArgs false
set_option linter.loopingSimpArgs false
namespace Go.Rip
abbrev aY:=List UInt8
structure Tk where
 k:Nat
 s:aY
 at_:Nat
 deriving DecidableEq
structure Nd where
 kind:Int
 text:aY
 n:Int
 m:Int
 at_:Int
 size:Int
 deriving DecidableEq
def eA (c:UInt8):Bool:=decide (48 <= c.toNat/\c.toNat <= 57)
def jx (c:UInt8):Bool:=decide (97 <= c.toNat/\c.toNat <= 122)
def wY (c:UInt8):Bool:=decide (65 <= c.toNat/\c.toNat <= 90)
def cq (c:UInt8):Bool:=eA c || jx c || wY c
def iI (c:UInt8):Bool:=decide (c.toNat=10\/32 <= c.toNat/\c.toNat <= 126)
def DT (s:aY):Int:=s.foldl (fun n c=>min (10 * n+((c.toNat:Int) - 48)) 1000001) 0
def DF (s:aY):Int:=s.foldl (fun n c=>10 * n+((c.toNat:Int) - 48)) 0
def kF (s:aY):Int:=if s.all eA=false then 4 else if 1 < s.length/\s.head?=some 48 then 4 else if 1000000 < DT s then 3 else 0
def iU:List aY:=[xX,zZ,tZ,kM,lP,xY,j9,xZ,ia,gO,gp,x5,uO,lE,x6,fC,kN,kU,qD,nF,rI,s0,lQ,abn,B3,s8,jM,sb,gz,nH]
def ef:List aY:=[cR,gd,iJ,rF,rD,qA,sY,qz,ek,eV,qB,rG,dW,dO,eD,rE]
def e8 (s:aY):Int × Nat × aY :=
 let w:=s.takeWhile cq
 match w with
 | []=>match ef.find? fun x=>x.isPrefixOf s with
   | some x=>(0,4,x)
   | none=>(4,0,[])
 | c::_=>if eA c then (kF w,2,w) else if jx c=false then (4,0,[]) else if w ∈ iU then (0,3,w) else if 12 < w.length then (4,0,[]) else (0,1,w)
inductive Gk where
 | ok (l:List Tk)
 | bad (p:Nat) (e:Int)
def fS:Nat->aY->Nat->List Tk->Gk
 | 0,_,_,l=>.ok l
 | f+1,s,p,l=>match s.drop p with
   | []=>.ok l
   | c::r=>if c.toNat=32\/c.toNat=10 then fS f s (p+1) l
     else if c.toNat=126 then fS f s (p+((c::r).takeWhile fun c=>c.toNat ≠ 10).length) l
     else match e8 (c::r) with
      | (e,k,t)=>if e ≠ 0 then .bad p e else if l.length=900 then .bad p 5 else fS f s (p+t.length) (l++[⟨k,t,p⟩])
def mI (s:aY):Nat × Int:=if 2500 < s.length then (0,5) else match s.findIdx? (fun c=>!iI c) with | some i=>(i,2) | none=>(0,0)
def mO (s:aY):Gk:=match mI s with
 | (p,e)=>if e ≠ 0 then .bad p e else fS s.length s 0 []
inductive PR (α:Type) where
 | ok (a:α) (i:Nat)
 | bad (i:Nat)
 | out
def PR.bind {α β:Type} (x:PR α) (f:α->Nat->PR β):PR β:=match x with
 | .ok a i=>f a i
 | .bad i=>.bad i
 | .out=>.out
def node (kind:Int) (text:aY) (n m at_:Int) (kids:List Nd):List Nd:=⟨kind,text,n,m,at_,(kids.length:Int)+1⟩::kids
section
variable (L:List Tk) (E:Nat)
def nw (i:Nat):Int:=match L[i]? with | some t=>t.at_ | none=>E
def fL (i:Nat) (w:aY):Bool:=match L[i]? with | some t=>(t.k == 3 || t.k == 4) && t.s == w | none=>false
def aak (i:Nat) (k:Nat):Bool:=match L[i]? with | some t=>t.k == k | none=>false
def aaj (i:Nat):Bool:=fL L i fC || fL L i j9 || fL L i gO
def jz (w:aY) (i:Nat):PR Unit:=if fL L i w=true then .ok () (i+1) else .bad i
def uC (i:Nat):PR aY:=match L[i]? with | some t=>if t.k=1 then .ok t.s (i+1) else .bad i | none=>.bad i
def CS (i:Nat):PR Int:=match L[i]? with | some t=>if t.k=2 then .ok (DF t.s) (i+1) else .bad i | none=>.bad i
def Vb (one:Nat->PR (List Nd)):Nat->List Nd->Nat->PR (List Nd)
 | 0,_,_=>.out
 | f+1,acc,i=>if fL L i dW=true then (one (i+1)).bind fun b j=>Vb one f (acc++b) j else .ok acc i
def acQ (one:Nat->PR (List Nd)) (f:Nat) (i:Nat):PR (List Nd):=(one i).bind fun a j=>Vb L one f a j
def Uw (i:Nat):PR (List Nd):=(uC L i).bind fun x j=>.ok (node 37 x 0 0 (nw L E i) []) j
def aaw (hO:Nat) (i:Nat):Option Int :=
 if hO=2 then if fL L i B3=true then some 17 else none
 else if hO=3 then if fL L i xX=true then some 18 else none
 else if hO=5 then if fL L i iJ=true then some 20 else if fL L i rF=true then some 21 else none
 else if hO=6 then if fL L i rD=true then some 22 else if fL L i qA=true then some 23 else none
 else if hO=7 then if fL L i sY=true then some 24 else none
 else if hO=8 then if fL L i zZ=true then some 25 else none
 else none
mutual
def Df:Nat->Nat->PR (List Nd)
 | 0,_=>.out
 | f+1,i=>(iQ f i).bind fun a j=>aaL f (nw L E j) a 1 j
def aaL:Nat->Int->List Nd->Nat->Nat->PR (List Nd)
 | 0,_,_,_,_=>.out
 | f+1,at_,acc,many,i=>if fL L i dO=true/\i+1 < L.length/\aaj L (i+1)=false then (iQ f (i+1)).bind fun b j=>aaL f at_ (acc++b) (many+1) j
   else .ok (if many=1 then acc else node 9 [] 0 0 at_ acc) i
def iQ:Nat->Nat->PR (List Nd)
 | 0,_=>.out
 | f+1,i =>
   if fL L i x6=true then (iQ f (i+1)).bind fun c j=>(jz L sb j).bind fun _ j=>(iQ f j).bind fun a j=>(jz L ia j).bind fun _ j=>(iQ f j).bind fun b j=>.ok (node 10 [] 0 0 (nw L E i) (c++a++b)) j
   else if fL L i nH=true then (iQ f (i+1)).bind fun a j=>(jz L xZ j).bind fun _ j=>(iQ f j).bind fun b j=>.ok (node 11 [] 0 0 (nw L E i) (a++b)) j
   else if fL L i rI=true then (uC L (i+1)).bind fun x j=>(jz L eD j).bind fun _ j=>(CS L j).bind fun n j=>(jz L cR j).bind fun _ j=>(CS L j).bind fun m j=>(jz L kN j).bind fun _ j=>(iQ f j).bind fun a j=>.ok (node 12 x n m (nw L E i) a) j
   else if fL L i nF=true then (uC L (i+1)).bind fun x j=>(jz L kN j).bind fun _ j=>(iQ f j).bind fun a j=>(jz L ia j).bind fun _ j=>(iQ f j).bind fun b j=>.ok (node 13 x 0 0 (nw L E i) (a++b)) j
   else if fL L i lP=true then (iQ f (i+1)).bind fun a j=>(jz L ia j).bind fun _ j=>(iQ f j).bind fun b j=>.ok (node 15 [] 0 0 (nw L E i) (a++b)) j
   else if fL L i lQ=true then (uC L (i+1)).bind fun x j=>(jz L cR j).bind fun _ j=>(CS L j).bind fun n j=>(jz L kN j).bind fun _ j=>(iQ f j).bind fun a j=>.ok (node 14 x n 0 (nw L E i) a) j
   else if aak L i 1=true/\fL L (i+1) cR=true then (uC L i).bind fun x j=>(jz L cR j).bind fun _ j=>(iQ f j).bind fun a j=>.ok (node 16 x 0 0 (nw L E i) a) j
   else uD f 2 i
def uD:Nat->Nat->Nat->PR (List Nd)
 | 0,_,_=>.out
 | f+1,hO,i =>
   if hO=9 then Uv f i
   else if hO=4 then if fL L i s0=true then (uD f 4 (i+1)).bind fun a j=>.ok (node 19 [] 0 0 (nw L E i) a) j else uD f 5 i
   else (uD f (hO+1) i).bind fun a j=>L6 f hO a j
def L6:Nat->Nat->List Nd->Nat->PR (List Nd)
 | 0,_,_,_=>.out
 | f+1,hO,left,i=>match aaw L hO i with
   | none=>.ok left i
   | some kind=>if hO=8 then (CS L (i+1)).bind fun n j=>L6 f hO (node kind [] n 0 (nw L E i) left) j
     else (uD f (hO+1) (i+1)).bind fun b j=>if hO=5 then .ok (node kind [] 0 0 (nw L E i) (left++b)) j else L6 f hO (node kind [] 0 0 (nw L E i) (left++b)) j
def Uv:Nat->Nat->PR (List Nd)
 | 0,_=>.out
 | f+1,i =>
   if fL L i gz=true then .ok (node 27 [] 0 0 (nw L E i) []) (i+1)
   else if fL L i gp=true then .ok (node 28 [] 0 0 (nw L E i) []) (i+1)
   else if fL L i jM=true then .ok (node 29 [] 0 0 (nw L E i) []) (i+1)
   else if fL L i lE=true then .ok (node 30 [] 0 0 (nw L E i) []) (i+1)
   else if fL L i qD=true then (uC L (i+1)).bind fun x j=>.ok (node 31 x 0 0 (nw L E i) []) j
   else if fL L i qz=true then (uC L (i+1)).bind fun x j=>.ok (node 32 x 0 0 (nw L E i) []) j
   else if fL L i ek=true then (Df f (i+1)).bind fun a j=>(jz L eV j).bind fun _ j=>.ok a j
   else if aak L i 2=true then (CS L i).bind fun n j=>.ok (node 26 [] n 0 (nw L E i) []) j
   else (uC L i).bind fun x j=>if fL L j ek=true then (DA f (j+1)).bind fun a j=>(Ut f a j).bind fun a j=>(jz L eV j).bind fun _ j=>.ok (node 34 x 0 0 (nw L E i) a) j
    else .ok (node 33 x 0 0 (nw L E i) []) j
def Ut:Nat->List Nd->Nat->PR (List Nd)
 | 0,_,_=>.out
 | f+1,acc,i=>if fL L i dW=true then (DA f (i+1)).bind fun b j=>Ut f (acc++b) j else .ok acc i
def DA:Nat->Nat->PR (List Nd)
 | 0,_=>.out
 | f+1,i =>
   if fL L i x5=true then (jz L ek (i+1)).bind fun _ j=>(acQ L (Uw L E) (L.length+1) j).bind fun a j=>(jz L eV j).bind fun _ j=>(iQ f j).bind fun b j=>.ok (node 35 [] 0 0 (nw L E i) (a++b)) j
   else if fL L i qB=true then (jz L uO (i+1)).bind fun _ j=>(iQ f j).bind fun a j=>(jz L dO j).bind fun _ j=>(jz L s8 j).bind fun _ j=>(Uw L E j).bind fun b j=>(jz L rE j).bind fun _ j=>(iQ f j).bind fun c j=>(jz L rG j).bind fun _ j=>.ok (node 36 [] 0 0 (nw L E i) (a++b++c)) j
   else Df f i
end
def fuel:Nat:=40 * (L.length+2)
end
end Go.Rip
namespace Go.Rip
def Gd {α:Type} (n lo lb:Nat):PR α->Prop
 | .ok _ j=>lo <= j/\j <= n
 | .bad j=>lb <= j/\j <= n
 | .out=>False
section
variable {α β:Type} {n lo lo' lb i:Nat} {L:List Tk} {E:Nat}
theorem Gd.bind {x:PR α} {f:α->Nat->PR β} (h:Gd n lo lb x) (k:∀ a j,lo <= j->j <= n->Gd n lo' lb (f a j)):Gd n lo' lb (x.bind f):=by
 cases x with
 | ok a j=>exact k a j h.1 h.2
 | bad j=>exact h
 | out=>exact h.elim
end
end Go.Rip
namespace Go.Rip
def wF (t:Tk):Prop:=t.s ≠ []/\e8 t.s=(0,t.k,t.s)
theorem wq (p:UInt8->Bool):∀ l:aY,(l.takeWhile p).takeWhile p=l.takeWhile p
 | []=>rfl
 | c::l=>by
   simp only [lL]
   cases h:p c with
   | true=>simp [h,wq p l]
   | false=>rfl
theorem H6:∀ x ∈ ef,e8 x=(0,4,x)/\x ≠ []:=by decide
theorem wu {s:aY} {k:Nat} {t:aY} (h:e8 s=(0,k,t)):wF ⟨k,t,0⟩/\t <+: s:=by
 have hid:=wq cq s
 have pF:=qS cq (l:=s)
 unfold e8 at h
 simp only at h
 split at h
 . rename_i hw
   split at h
   . rename_i x hx
     simp only [gJ,true_and] at h
     obtain ⟨rfl,rfl⟩:=h
     have hm:=List.mem_of_find?_eq_some hx
     have hp:=List.find?_some hx
     exact ⟨⟨(H6 _ hm).2,(H6 _ hm).1⟩,List.isPrefixOf_iff_prefix.1 hp⟩
   . simp at h
 . rename_i c r hw
   have key:∀ {e:Int} {k:Nat},e8 (s.takeWhile cq)=(e,k,s.takeWhile cq)->e=0->wF ⟨k,s.takeWhile cq,0⟩/\s.takeWhile cq <+: s:=fun h1 h2=>⟨⟨by simp [hw],by rw [h1,h2]⟩,pF⟩
   split at h
   . rename_i hd
     simp only [gJ] at h
     obtain ⟨h1,rfl,rfl⟩:=h
     refine key ?_ h1
     unfold e8
     simp only [hid]
     rw [hw]
     simp only [if_pos hd]
   . rename_i hd
     split at h
     . simp at h
     . rename_i hs
       split at h
       . rename_i hk
         simp only [gJ,true_and] at h
         obtain ⟨rfl,rfl⟩:=h
         refine key ?_ rfl
         unfold e8
         simp only [hid]
         rw [hw] at hk ⊢
         simp only [if_neg hd,if_neg hs,if_pos hk]
       . rename_i hk
         split at h
         . simp at h
         . rename_i hl
           simp only [gJ,true_and] at h
           obtain ⟨rfl,rfl⟩:=h
           refine key ?_ rfl
           unfold e8
           simp only [hid]
           rw [hw] at hk hl ⊢
           simp only [if_neg hd,if_neg hs,if_neg hk,if_neg hl]
theorem Ao:∀ (f:Nat) (s:aY) (p:Nat) (l:List Tk) {L:List Tk},fS f s p l=.ok L->(∀ t ∈ l,wF t)->l.length <= 900->(∀ t ∈ L,wF t)/\L.length <= 900
 | 0,s,p,l,L,h,hl,hn=>by simp only [fS,Gk.ok.injEq] at h; subst h; exact ⟨hl,hn⟩
 | f+1,s,p,l,L,h,hl,hn=>by
   simp only [fS] at h
   split at h
   . simp only [Gk.ok.injEq] at h; subst h; exact ⟨hl,hn⟩
   . split at h
     . exact Ao f s _ l h hl hn
     . split at h
       . exact Ao f s _ l h hl hn
       . split at h
         . cases h
         . rename_i he
           split at h
           . cases h
           . rename_i hc
             refine Ao f s _ _ h (fun t ht=>?_) (by simp; omega)
             simp only [fN,kH] at ht
             rcases ht with ht | rfl
             . exact hl t ht
             . have mh:(e8 _).1=0:=Decidable.not_not.1 he
               exact (wu (Prod.ext mh rfl)).1
theorem Wz {s:aY} {L:List Tk} (h:mO s=.ok L):(∀ t ∈ L,wF t)/\L.length <= 900:=by
 unfold mO at h
 split at h
 split at h
 . cases h
 . exact Ao _ _ _ _ h (by simp) (by simp)
end Go.Rip
namespace Go.Rip
def iw (a:Int) (s:aY):Int:=s.foldl (fun n c=>min (10 * n+((c.toNat:Int) - 48)) 1000001) a
def ti (a:Int) (s:aY):Int:=s.foldl (fun n c=>10 * n+((c.toNat:Int) - 48)) a
theorem mE {c:UInt8}:eA c=true ↔ 48 <= c.toNat/\c.toNat <= 57:=by simp [eA]
theorem Aq:∀ (s:aY) (a:Int),a <= 1000001->iw a s <= 1000001
 | [],a,h=>h
 | c::s,a,h=>Aq s (min (10 * a+((c.toNat:Int) - 48)) 1000001) (by omega)
theorem qR:∀ (s:aY) (a:Int),s.all eA=true->0 <= a->min a 1000001 <= iw a s
 | [],a,_,h=>by simp [iw]; omega
 | c::s,a,hd,h=>by
   simp only [List.all_cons,bX] at hd
   have h1:=mE.1 hd.1
   have:=qR s (min (10 * a+((c.toNat:Int) - 48)) 1000001) hd.2 (by omega)
   have e:iw a (c::s)=iw (min (10 * a+((c.toNat:Int) - 48)) 1000001) s:=rfl
   omega
theorem Fc:∀ (s:aY) (a:Int),s.all eA=true->0 <= a->iw a s <= 1000000->iw a s=ti a s
 | [],a,_,_,_=>rfl
 | c::s,a,hd,h,hl=>by
   simp only [List.all_cons,bX] at hd
   have h1:=mE.1 hd.1
   have e:iw a (c::s)=iw (min (10 * a+((c.toNat:Int) - 48)) 1000001) s:=rfl
   have e2:ti a (c::s)=ti (10 * a+((c.toNat:Int) - 48)) s:=rfl
   have hg:=qR s (min (10 * a+((c.toNat:Int) - 48)) 1000001) hd.2 (by omega)
   have hm:min (10 * a+((c.toNat:Int) - 48)) 1000001=10 * a+((c.toNat:Int) - 48):=by omega
   rw [hm] at e
   rw [e,e2]
   exact Fc s _ hd.2 (by omega) (by omega)
theorem HQ:∀ (s:aY) (a:Int),s.all eA=true->1 <= a->iw a s <= 1000000->10 ^ s.length * a <= iw a s
 | [],a,_,_,_=>by simp [iw]
 | c::s,a,hd,h,hl=>by
   simp only [List.all_cons,bX] at hd
   have h1:=mE.1 hd.1
   have e:iw a (c::s)=iw (min (10 * a+((c.toNat:Int) - 48)) 1000001) s:=rfl
   have hg:=qR s (min (10 * a+((c.toNat:Int) - 48)) 1000001) hd.2 (by omega)
   have hm:min (10 * a+((c.toNat:Int) - 48)) 1000001=10 * a+((c.toNat:Int) - 48):=by omega
   rw [hm] at e
   rw [e] at hl ⊢
   have:=HQ s _ hd.2 (by omega) hl
   have hp:(0:Int) < 10 ^ s.length:=Int.pow_pos (by omega)
   have:10 ^ s.length * (10 * a) <= 10 ^ s.length * (10 * a+((c.toNat:Int) - 48)):=Int.mul_le_mul_of_nonneg_left (by omega) (by omega)
   rw [gu,Int.pow_succ,Int.mul_assoc]
   omega
theorem KA {s:aY} (h:kF s=0):s.all eA=true/\¬ (1 < s.length/\s.head?=some 48)/\DT s <= 1000000:=by
 unfold kF at h
 split at h
 . cases h
 . rename_i h1
   split at h
   . cases h
   . rename_i h2
     split at h
     . cases h
     . rename_i h3; exact ⟨by simpa using h1,h2,by omega⟩
theorem OC {s:aY} (h0:s ≠ []) (h:kF s=0):1 <= s.length/\s.length <= 7/\DT s=DF s/\0 <= DF s/\DF s <= 1000000:=by
 obtain ⟨h1,h2,h3⟩:=KA h
 have hv:DT s=iw 0 s:=rfl
 have hd:DF s=ti 0 s:=rfl
 have e:=Fc s 0 h1 (by omega) (by omega)
 have hg:=qR s 0 h1 (by omega)
 refine ⟨?_,?_,by omega,by omega,by omega⟩
 . cases s with
   | nil=>exact absurd rfl h0
   | cons c s=>simp
 . cases s with
   | nil=>simp
   | cons c s =>
     simp only [List.all_cons,bX] at h1
     have hc:=mE.1 h1.1
     rcases gr s.length 1 with hl | hl
     . simp; omega
     . have Ey:c ≠ 48:=fun e=>h2 ⟨by simp; omega,by simp [e]⟩
       have uq:c.toNat ≠ 48:=fun e=>Ey (by apply UInt8.toNat_inj.1; simpa using e)
       have e1:iw 0 (c::s)=iw ((c.toNat:Int) - 48) s:=by
        show iw (min (10 * 0+((c.toNat:Int) - 48)) 1000001) s=_
        congr 1; omega
       have hlen:=HQ s ((c.toNat:Int) - 48) h1.2 (by omega) (by omega)
       rcases gr s.length 7 with hl | hl
       . simp; omega
       . exfalso
         have h7:(10:Int) ^ 7 <= 10 ^ s.length:=by
          have:=Nat.pow_le_pow_right (n:=10) (by omega) hl
          exact_mod_cast this
         have:(10:Int) ^ s.length * 1 <= 10 ^ s.length * ((c.toNat:Int) - 48):=Int.mul_le_mul_of_nonneg_left (by omega) (by omega)
         omega
theorem Is {s:aY} (h:e8 s=(0,2,s)) (h0:s ≠ []):kF s=0:=by
 unfold e8 at h
 simp only at h
 split at h
 . split at h <;> simp at h
 . rename_i c r hw
   split at h
   . simp only [gJ,true_and] at h
     rw [h.2] at h; exact h.1
   . split at h
     . simp at h
     . split at h
       . simp at h
       . split at h <;> simp at h
end Go.Rip
namespace Go.Rip
theorem p5 {s:aY} {k:Nat} {t:aY} (h:e8 s=(0,k,t)):(k=1/\t ∉ iU/\t.length <= 12/\(∃ c r,t=c::r/\jx c=true)/\t.all cq=true)\/(k=2/\∃ c r,t=c::r/\eA c=true)\/(k=3/\t ∈ iU)\/(k=4/\t ∈ ef):=by
 have bA:(s.takeWhile cq).all cq=true:=by
  rw [ep]; intro x hx
  have:∀ l:aY,x ∈ l.takeWhile cq->cq x=true:=fun l=>by
   induction l with
   | nil=>simp
   | cons c l ih =>
     simp only [lL]
     split
     . rename_i hc
       intro h
       rcases cF.1 h with rfl | h
       . exact hc
       . exact ih h
     . simp
  exact this s hx
 unfold e8 at h
 simp only at h
 split at h
 . split at h
   . rename_i x hx
     simp only [gJ,true_and] at h
     obtain ⟨rfl,rfl⟩:=h
     exact .inr (.inr (.inr ⟨rfl,List.mem_of_find?_eq_some hx⟩))
   . simp at h
 . rename_i c r hw
   split at h
   . rename_i hd
     simp only [gJ] at h
     obtain ⟨h1,rfl,rfl⟩:=h
     exact .inr (.inl ⟨rfl,c,r,hw,hd⟩)
   . split at h
     . simp at h
     . rename_i hs
       split at h
       . rename_i hk
         simp only [gJ,true_and] at h
         obtain ⟨rfl,rfl⟩:=h
         exact .inr (.inr (.inl ⟨rfl,hk⟩))
       . rename_i hk
         split at h
         . simp at h
         . rename_i hl
           simp only [gJ,true_and] at h
           obtain ⟨rfl,rfl⟩:=h
           exact .inl ⟨rfl,hk,by omega,⟨c,r,hw,by simpa using hs⟩,bA⟩
theorem wF.cases {t:Tk} (h:wF t):(t.k=1/\t.s ∉ iU)\/t.k=2\/(t.k=3/\t.s ∈ iU)\/(t.k=4/\t.s ∈ ef):=by
 rcases p5 h.2 with h | h | h | h
 . exact .inl ⟨h.1,h.2.1⟩
 . exact .inr (.inl h.1)
 . exact .inr (.inr (.inl h))
 . exact .inr (.inr (.inr h))
end Go.Rip
