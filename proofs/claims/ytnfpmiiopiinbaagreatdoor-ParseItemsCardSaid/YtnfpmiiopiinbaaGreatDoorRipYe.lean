/- Lemmas for the proof: no conditions. -/
import Derived.Test.YtnfpmiiopiinbaaGreatDoorRipZz
import Derived.Test.YtnfpmiiopiinbaaGreatDoorRipK
import Derived.Test.YtnfpmiiopiinbaaGreatDoorRipX
set_option linter.unusedVariables false
set_option linter.unusedSimpArgs false
set_option linter.loopingSimpArgs false
namespace Go.Rip
def tx (t:Tk):Tx:=(t.k,t.s)
def bz (l:List Nd):List Nd:=l.map fun x=>{ x with at_:=0 }
def At (L:List Tk) (i:Nat) (l:List Tx):Prop:=∃ r,(L.drop i).map tx=l++r
section
variable {L:List Tk} {E i j:Nat} {l l' a b:List Tx} {x:Tx} {w:aQ}
theorem At.nil:At L i []:=⟨_,rfl⟩
theorem At.cons (h:At L i (x::l)):(∃ t,L[i]?=some t/\tx t=x)/\At L (i+1) l:=by
 obtain ⟨r,h⟩:=h
 have h0:=congrArg (fun z:List Tx=>z[0]?) h
 simp only [ln,List.getElem?_drop,Nat.add_zero,ib,List.getElem?_cons_zero] at h0
 have h1:=congrArg (fun z:List Tx=>z.drop 1) h
 simp only [ib,List.drop_succ_cons,dJ,<- List.map_drop,List.drop_drop] at h1
 refine ⟨?_,r,h1⟩
 cases ht:L[i]? with
 | none=>rw [ht] at h0; cases h0
 | some t=>rw [ht] at h0; exact ⟨t,rfl,by simpa using h0⟩
theorem At.tail (h:At L i (x::l)):At L (i+1) l:=h.cons.2
theorem At.app (h:At L i (a++b)):At L i a/\At L (i+a.length) b:=by
 obtain ⟨r,h⟩:=h
 refine ⟨⟨b++r,by rw [h,iM]⟩,⟨r,?_⟩⟩
 rw [<- List.drop_drop,List.map_drop,h,iM,List.drop_left]
theorem At.le (h:At L i l) (hi:i <= L.length):i+l.length <= L.length:=by
 obtain ⟨r,h⟩:=h
 have:=congrArg List.length h
 simp only [List.length_map,List.length_drop,dh] at this
 omega
theorem At.le' (h:At L i (x::l)):i+(x::l).length <= L.length:=by
 obtain ⟨⟨t,ht,_⟩,_⟩:=h.cons
 exact h.le (Nat.le_of_lt (c8.1 ht).1)
theorem yK (h:At L i (x::l)):cz L i w=((x.1 == 3 || x.1 == 4) && x.2 == w):=by
 obtain ⟨⟨t,ht,rfl⟩,_⟩:=h.cons
 unfold cz; rw [ht]; rfl
theorem F9:∀ (f n:Nat),n < 10 ^ f->pk 0 (ko f n)=(n:Int)
 | 0,n,h=>by simp at h; subst h; rfl
 | f+1,n,h=>by
   unfold ko
   split
   . rename_i hn
     show (10 * (0:Int)+(((48+n).toUInt8.toNat:Int) - 48))=n
     have:(48+n).toUInt8.toNat=48+n:=by simp [Nat.toUInt8,UInt8.toNat_ofNat']; omega
     omega
   . rename_i hn
     have ih:=F9 f (n / 10) (by rw [Nat.pow_succ] at h; omega)
     have hd:∀ (s:aQ) (c:UInt8) (a:Int),pk a (s++[c])=10 * pk a s+((c.toNat:Int) - 48):=fun s c a=>by simp [pk,List.foldl_append]
     rw [hd,ih]
     have:(48+n % 10).toUInt8.toNat=48+n % 10:=by simp [Nat.toUInt8,UInt8.toNat_ofNat']; omega
     omega
theorem Qp {n:Int} (h:fQ n=true):tQ (mx n)=n:=by
 simp only [fQ,dI] at h
 have:=F9 20 n.toNat (by
  have:(1000000:Nat) < 10 ^ 20:=by decide
  omega)
 show pk 0 (mx n)=n
 unfold mx; rw [this]; omega
def Fo (L:List Tk) (lev j:Nat):Prop:=(∀ l',lev <= l'->x7 L l' j=none)/\cz L j fy=false/\cz L j bX=false
def FoT (L:List Tk) (j:Nat):Prop:=Fo L 2 j/\¬ (cz L j ff=true/\j+1 < L.length/\Cr L (j+1)=false)
theorem Fo.up {lev Gi:Nat} (h:Fo L lev j) (k:lev <= Gi):Fo L Gi j:=⟨fun l' hl=>h.1 l' (by omega),h.2⟩
def stops:List aQ:=[gd,ff,pS,fZ,uj,fG,tI]
theorem Vd {lev:Nat} (h:∀ w ∈ [Aw,wv,lS,tH,tF,tG,tE,yw],cz L j w=false):x7 L lev j=none:=by
 simp only [cD,List.not_mem_nil,or_false,forall_eq_or_imp,forall_eq] at h
 obtain ⟨h1,h2,h3,h4,h5,h6,h7,h8⟩:=h
 unfold x7
 simp only [h1,h2,h3,h4,h5,h6,h7,h8,bJ,if_false]
 repeat' split
 all_goals rfl
theorem UE (hw:w ∈ stops) (h:At L j (bm w::l)):Fo L 2 j:=by
 have key:∀ w ∈ stops,∀ v ∈ [Aw,wv,lS,tH,tF,tG,tE,yw,fy,bX],(((bm w).1 == 3 || (bm w).1 == 4) && (bm w).2 == v)=false:=by decide
 have k:=key w hw
 refine ⟨fun l' _=>Vd fun v hv=>?_,?_,?_⟩
 . rw [yK h]; exact k v (List.mem_append_left [fy,bX] hv:_)
 . rw [yK h]; exact k _ (by simp)
 . rw [yK h]; exact k _ (by simp)
def sy:List Int:=[17,18,20,21,22,23,24,25]
end
end Go.Rip
namespace Go.Rip
def acE:List Tx:=[bm uk,bm lz,bm rM,bm nL,bm kM,bm lU]
def Xc:List Tx:=[bm yx,bm rL,bm eS,bm j0,bm gz]
def TxK (x:Tx):Prop:=x.1=1\/x.1=2\/x=bm x.2
abbrev YK (y:Tx):Prop:=((y.1 == 3 || y.1 == 4) && y.2 == bX)=false
def Hd (lev:Nat) (l:List Tx):Prop:=∃ x r,l=x::r/\TxK x/\x ∉ Xc/\(2 <= lev->x ∉ acE/\(x.1=1->∀ y r',r=y::r'->YK y))/\(5 <= lev->x ≠ bm wx)
theorem Hd.low {lev Gi:Nat} {l:List Tx} (h:Hd lev l) (k:Gi <= lev):Hd Gi l:=by
 obtain ⟨x,r,h1,h2,h3,h4,h5⟩:=h
 exact ⟨x,r,h1,h2,h3,fun e=>h4 (by omega),fun e=>h5 (by omega)⟩
theorem Hd.app {lev:Nat} {l l':List Tx} (h:Hd lev l) (k:∀ y r',l'=y::r'->YK y):Hd lev (l++l'):=by
 obtain ⟨x,r,rfl,h2,h3,h4,h5⟩:=h
 refine ⟨x,r++l',rfl,h2,h3,fun e=>⟨(h4 e).1,fun e1 y r' h=>?_⟩,h5⟩
 cases r with
 | nil=>exact k y r' h
 | cons z r =>
   have hz:z=y:=by simp only [ib,List.cons.injEq] at h; exact h.1
   exact (h4 e).2 e1 y r (by rw [hz])
section
variable {L:List Tk} {E:Nat}
theorem IM {i:Nat} {x:Tx} {r:List Tx} {w:aQ} (h:At L i (x::r)) (hx:TxK x) (hn:x ≠ bm w):cz L i w=false:=by
 rw [yK h,Bool.eq_false_iff]
 intro e
 simp only [bL,iL,beq_iff_eq] at e
 rcases hx with hx | hx | hx
 . omega
 . omega
 . exact hn (by rw [hx,e.2])
def Rd (L:List Tk) (p:Nat->PR (List Nd)) (c i j:Nat) (T:List Nd):Prop:=∀ f,40 * (L.length - i)+c <= f->∃ ns,bz ns=bz T/\p f=.ok ns j
variable (L E) in
def acA (lev:Nat) (l:List Tx) (T:List Nd):Prop:=∀ i,At L i l->Fo L lev (i+l.length)->Rd L (fun f=>ku L E f lev i) (11 - lev) i (i+l.length) T
variable (L E) in
def acz (lev:Nat) (l:List Tx) (T:List Nd):Prop:=∀ i,At L i l->Fo L (lev+1) (i+l.length)->∀ f,40 * (L.length - i)+(11 - lev) <= f->∃ ns f',bz ns=bz T/\40 * (L.length - (i+l.length))+1 <= f'/\ku L E f lev i=tZ L E f' lev ns (i+l.length)
variable (L E) in
def B6 (l:List Tx) (T:List Nd):Prop:=∀ i,At L i l->Fo L 2 (i+l.length)->Rd L (fun f=>cB L E f i) 10 i (i+l.length) T
variable (L E) in
def VM (l:List Tx) (T:List Nd):Prop:=∀ i,At L i l->FoT L (i+l.length)->Rd L (fun f=>rJ L E f i) 11 i (i+l.length) T
variable (L E) in
def aar (l:List Tx) (T:List Nd):Prop:=∀ i,At L i l->FoT L (i+l.length)->Rd L (fun f=>nR L E f i) 12 i (i+l.length) T
variable {l:List Tx} {T:List Nd} {lev:Nat}
structure Good (L:List Tk) (E:Nat) (k:Int) (l:List Tx) (T:List Nd):Prop where
 term:VM L E l T
 first:k ≠ 9->B6 L E l T
 op:2 <= dD k->acA L E (dD k) l T
 ch:dD k=2\/dD k=3\/dD k=6\/dD k=7\/dD k=8->acz L E (dD k) l T
 hd:Hd (dD k) l
section
variable {k:Int} (g:Good L E k l T)
include g
end
end
end Go.Rip
namespace Go.Rip
@[simp] theorem acF {α β:Type} {a:α} {i:Nat} {f:α->Nat->PR β}:(PR.ok a i).bind f=f a i:=rfl
section
variable {L:List Tk} {E:Nat} {l l0 l1 l2 r:List Tx} {T T0 T1 T2:List Nd} {i f:Nat} {w:aQ} {a:Int}
theorem B6.go (g:B6 L E l T) (h:At L i (l++bm w::r)) (hw:w ∈ stops) (hf:40 * (L.length - i)+10 <= f):∃ ns,bz ns=bz T/\cB L E f i=.ok ns (i+l.length)/\At L (i+l.length) (bm w::r):=by
 obtain ⟨ns,h1,h2⟩:=g i h.app.1 (UE hw h.app.2) f hf
 exact ⟨ns,h1,h2,h.app.2⟩
theorem At.lt {x:Tx} (h:At L i (x::l)):i+1 <= L.length:=by
 have:=h.le'
 simp at this; omega
end
end Go.Rip
namespace Go.Rip
theorem o8 (w:aQ):∀ (l:List Tx) (ls:List (List Tx)),eE w (l::ls)=l++ls.flatMap fun m=>bm w::m
 | l,[]=>by simp [eE]
 | l,m::ls=>by rw [eE,o8 w m ls]; simp
abbrev Pt:=List Tx × List Nd
def Pt.all (P:List Pt):List Nd:=P.flatMap fun p=>p.2
section
variable {L:List Tk} {E:Nat} {l l0 l1 l2 r:List Tx} {T T0 T1 T2:List Nd} {w:aQ} {a:Int}
theorem Good.arg {k:Int} (g:Good L E k l T):aar L E l T:=by
 intro i hi hf f hfu
 obtain ⟨f,rfl⟩:∃ g,f=g+1:=⟨f - 1,by omega⟩
 obtain ⟨ns,h1,h2⟩:=g.term i hi hf f (by omega)
 have h2:rJ L E f i=.ok ns (i+l.length):=h2
 obtain ⟨x,r,rfl,k1,k2,_⟩:=g.hd
 simp only [Xc,cD,List.not_mem_nil,or_false,not_or] at k2
 refine ⟨ns,h1,?_⟩
 show nR L E (f+1) i=_
 rw [nR,if_neg (by simp [IM hi k1 k2.1]),if_neg (by simp [IM hi k1 k2.2.1])]
 exact h2
end
end Go.Rip
