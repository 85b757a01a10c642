/- Lemmas for the proof: no conditions. -/
import Derived.Test.YtnfpmiiopiinbaaGreatDoorRipZz
import Derived.Test.YtnfpmiiopiinbaaGreatDoorRipK
import Derived.Test.YtnfpmiiopiinbaaGreatDoorRipX
set_option linter.unusedVariables false
set_option linter.unusedSimpArgs false
set_option linter.loopingSimpArgs false
namespace Go.Rip
def tx (t:Tk):Tx:=(t.k,t.s)
def bz (l:List Nd):List Nd:=l.map λ x=>{ x with at_:=0 }
theorem RM (a b:List Nd):bz (a++b)=bz a++bz b:=by simp[bz]
theorem Ek {a b:List Nd} (h:bz a=bz b):a.length=b.length:=by
 have:=congrArg List.length h;simpa [bz] using this
theorem fl {k:Int} {t:aG} {n m a a':Int} {l l':List Nd} (h:bz l=bz l'):bz (node k t n m a l)=bz (node k t n m a' l'):=by
 have hl:=Ek h;unfold node;unfold bz at h ⊢;simp[h,hl]
theorem iq {a b a' b':List Nd} (h:bz a=bz a') (k:bz b=bz b'):bz (a++b)=bz (a'++b'):=by rw[RM,RM,h,k]
def At (L:List Tk) (i:Nat) (l:List Tx):Prop:=∃ r,(L.drop i).map tx=l++r
section
variable {L:List Tk} {E i j:Nat} {l l' a b:List Tx} {x:Tx} {w:aG}
theorem At.cons (h:At L i (x::l)):(∃ t,L[i]?=some t/\tx t=x)/\At L (i+1) l:=by
 obtain⟨r,h⟩:=h;have h0:=congrArg (λ z:List Tx=>z[0]?) h;simp only[oA,List.getElem?_drop,Nat.add_zero,dK,List.getElem?_cons_zero]at h0;have h1:=congrArg (λ z:List Tx=>z.drop 1) h;simp only[dK,List.drop_succ_cons,eG,<- List.map_drop,List.drop_drop]at h1;refine⟨?_,r,h1⟩;cases ht:L[i]? with
 | none=>rw[ht]at h0; cases h0
 | some t=>rw[ht]at h0; exact⟨t,rfl,by simpa using h0⟩
theorem At.tail (h:At L i (x::l)):At L (i+1) l:=h.cons.2
theorem At.app (h:At L i (a++b)):At L i a/\At L (i+a.length) b:=by
 obtain⟨r,h⟩:=h;refine⟨⟨b++r,by rw[h,dc]⟩,⟨r,?_⟩⟩;rw[<- List.drop_drop,List.map_drop,h,dc,List.drop_left]
theorem At.le (h:At L i l) (hi:i<=L.length):i+l.length<=L.length:=by
 obtain⟨r,h⟩:=h;have:=congrArg List.length h;simp only[List.length_map,List.length_drop,cO]at this;omega
theorem At.le' (h:At L i (x::l)):i+(x::l).length<=L.length:=by
 obtain⟨⟨t,ht,_⟩,_⟩:=h.cons;exact h.le (Nat.le_of_lt (dp.1 ht).1)
theorem ey (h:At L i (x::l)):bm L i w=((x.1==3||x.1==4)&&x.2==w):=by
 obtain⟨⟨t,ht,rfl⟩,_⟩:=h.cons;unfold bm; rw[ht]; rfl
theorem Cf {k:Nat} (h:At L i (x::l)):rF L i k=(x.1==k):=by
 obtain⟨⟨t,ht,rfl⟩,_⟩:=h.cons;unfold rF; rw[ht]; rfl
theorem O9:(aB w).1=3\/(aB w).1=4:=by
 unfold aB;cases w with
 | nil=>exact .inr rfl
 | cons c r=>by_cases h:mM c=true<;>simp[h]
theorem fQ (h:At L i (aB w::l)):bm L i w=true:=by
 rw[ey h];have:(aB w).2=w:=rfl;rcases O9 (w:=w) with h|h<;>simp[h,this]
theorem dx (h:At L i (aB w::l)):bM L w i=.ok () (i+1):=by unfold bM; rw[if_pos (fQ h)]
theorem lJ (h:At L i (eK w::l)):gX L i=.ok w (i+1):=by
 obtain⟨⟨t,ht,e⟩,_⟩:=h.cons;unfold gX; rw[ht];have h1:t.k=1:=congrArg Prod.fst e;have h2:t.s=w:=congrArg Prod.snd e;simp[h1,h2]
theorem K2:∀ (f n:Nat),n<10 ^ f->lT 0 (lV f n)=(n:Int)
 | 0,n,h=>by simp at h; subst h; rfl
 | f+1,n,h=>by
   unfold lV;split
   . rename_i hn;show (10*(0:Int)+(((48+n).toUInt8.toNat:Int)-48))=n;have:(48+n).toUInt8.toNat=48+n:=by simp[Nat.toUInt8,UInt8.toNat_ofNat']; omega
     omega
   . rename_i hn;have ih:=K2 f (n / 10) (by rw[Nat.pow_succ]at h; omega);have hd:∀ (s:aG) (c:UInt8) (a:Int),lT a (s++[c])=10*lT a s+((c.toNat:Int)-48):=λ s c a=>by simp[lT,List.foldl_append]
     rw[hd,ih];have:(48+n%10).toUInt8.toNat=48+n%10:=by simp[Nat.toUInt8,UInt8.toNat_ofNat']; omega
     omega
theorem JZ {n:Int} (h:dV n=true):tn (nH n)=n:=by
 simp only[dV,eg]at h;have:=K2 20 n.toNat (by
  have:(1000000:Nat)<10 ^ 20:=by decide
  omega)
 show lT 0 (nH n)=n;unfold nH; rw[this]; omega
theorem rH {n:Int} (hn:dV n=true) (h:At L i (jh n::l)):jo L i=.ok n (i+1):=by
 obtain⟨⟨t,ht,e⟩,_⟩:=h.cons;unfold jo; rw[ht];have h1:t.k=2:=congrArg Prod.fst e;have h2:t.s=nH n:=congrArg Prod.snd e;simp[h1,h2,JZ hn]
def Fo (L:List Tk) (lev j:Nat):Prop:=(∀ l',lev<=l'->ox L l' j=none)/\bm L j bK=false/\bm L j bQ=false
def Jy (L:List Tk) (j:Nat):Prop:=Fo L 2 j/\¬ (bm L j cC=true/\j+1<L.length/\uF L (j+1)=false)
theorem Fo.up {lev Bc:Nat} (h:Fo L lev j) (k:lev<=Bc):Fo L Bc j:=⟨λ l' hl=>h.1 l' (by omega),h.2⟩
def stops:List aG:=[bJ,cC,oL,fe,sY,cH,jJ]
theorem abW {lev:Nat} (h:∀ w∈[Ea,zM,gP,ud,ub,sX,u9,uI],bm L j w=false):ox L lev j=none:=by
 simp only[cK,List.not_mem_nil,or_false,forall_eq_or_imp,forall_eq]at h;obtain⟨h1,h2,h3,h4,h5,h6,h7,h8⟩:=h;unfold ox;simp only[h1,h2,h3,h4,h5,h6,h7,h8,bZ,if_false]
 repeat' split
 all_goals rfl
theorem xT (hw:w∈stops) (h:At L j (aB w::l)):Fo L 2 j:=by
 have key:∀ w∈stops,∀ v∈[Ea,zM,gP,ud,ub,sX,u9,uI,bK,bQ],(((aB w).1==3||(aB w).1==4)&&(aB w).2==v)=false:=by decide
 have k:=key w hw;refine⟨λ l' _=>abW λ v hv=>?_,?_,?_⟩
 . rw[ey h]; exact k v (List.mem_append_left [bK,bQ] hv:_)
 . rw[ey h]; exact k _ (by simp)
 . rw[ey h]; exact k _ (by simp)
theorem vC (hw:w∈stops) (hs:w≠cC) (h:At L j (aB w::l)):Jy L j:=by
 refine⟨xT hw h,λ k=>?_⟩;have key:∀ w∈stops,w≠cC->(((aB w).1==3||(aB w).1==4)&&(aB w).2==cC)=false:=by decide
 rw[ey h,key w hw hs]at k;cases k.1
def oQ:List Int:=[17,18,20,21,22,23,24,25]
theorem QE {k:Int} (hk:k∈oQ) (h:At L j (aB (ki k)::l)):ox L (bP k) j=some k/\Fo L (bP k+1) j:=by
 have hw:∀ v,bm L j v=(((aB (ki k)).1==3||(aB (ki k)).1==4)&&(aB (ki k)).2==v):=λ v=>ey h;simp only[oQ,cK,List.not_mem_nil,or_false]at hk;rcases hk with rfl|rfl|rfl|rfl|rfl|rfl|rfl|rfl
 all_goals
  refine⟨by unfold ox; simp only[hw]; rfl,λ l' hl=>?_,by rw[hw]; rfl,by rw[hw]; rfl⟩;unfold ox;simp only[hw]
  repeat' split
  all_goals first
   | rfl
   | (exfalso; simp only[bP]at hl; revert hl; simp; omega)
   | (exfalso; revert ‹_=true›; decide)
end
end Go.Rip
namespace Go.Rip
def F3:List Tx:=[aB pg,aB gH,aB lY,aB jb,aB ia,aB iU]
def Dq:List Tx:=[aB rO,aB gQ,aB dY,aB gg,aB dQ]
def TxK (x:Tx):Prop:=x.1=1\/x.1=2\/x=aB x.2
abbrev Qy (y:Tx):Prop:=((y.1==3||y.1==4)&&y.2==bQ)=false
def Hd (lev:Nat) (l:List Tx):Prop:=∃ x r,l=x::r/\TxK x/\x∉Dq/\(2<=lev->x∉F3/\(x.1=1->∀ y r',r=y::r'->Qy y))/\(5<=lev->x≠aB qD)
theorem Hd.low {lev Bc:Nat} {l:List Tx} (h:Hd lev l) (k:Bc<=lev):Hd Bc l:=by
 obtain⟨x,r,h1,h2,h3,h4,h5⟩:=h;exact⟨x,r,h1,h2,h3,λ e=>h4 (by omega),λ e=>h5 (by omega)⟩
theorem Hd.par {lev:Nat} {l:List Tx}:Hd lev (aB bK::l):=by
 refine⟨_,_,rfl,.inr (.inr rfl),by decide,λ _=>⟨by decide,λ h=>?_⟩,λ _=>by decide⟩;cases h
theorem Hd.app {lev:Nat} {l l':List Tx} (h:Hd lev l) (k:∀ y r',l'=y::r'->Qy y):Hd lev (l++l'):=by
 obtain⟨x,r,rfl,h2,h3,h4,h5⟩:=h;refine⟨x,r++l',rfl,h2,h3,λ e=>⟨(h4 e).1,λ e1 y r' h=>?_⟩,h5⟩;cases r with
 | nil=>exact k y r' h
 | cons z r =>
   have hz:z=y:=by simp only[dK,List.cons.injEq]at h; exact h.1
   exact (h4 e).2 e1 y r (by rw[hz])
section
variable {L:List Tk} {E:Nat}
theorem mW {i:Nat} {x:Tx} {r:List Tx} {w:aG} (h:At L i (x::r)) (hx:TxK x) (hn:x≠aB w):bm L i w=false:=by
 rw[ey h,Bool.eq_false_iff];intro e;simp only[cb,kJ,beq_iff_eq]at e;rcases hx with hx|hx|hx
 . omega
 . omega
 . exact hn (by rw[hx,e.2])
def Rd (L:List Tk) (p:Nat->PR (List Nd)) (c i j:Nat) (T:List Nd):Prop:=∀ f,40*(L.length-i)+c<=f->∃ ns,bz ns=bz T/\p f=.ok ns j
variable (L E) in
def si (l:List Tx) (T:List Nd):Prop:=∀ i,At L i l->bm L (i+l.length) bK=false->Rd L (λ f=>gI L E f i) 1 i (i+l.length) T
variable (L E) in
def nE (lev:Nat) (l:List Tx) (T:List Nd):Prop:=∀ i,At L i l->Fo L lev (i+l.length)->Rd L (λ f=>eC L E f lev i) (11-lev) i (i+l.length) T
variable (L E) in
def uy (lev:Nat) (l:List Tx) (T:List Nd):Prop:=∀ i,At L i l->Fo L (lev+1) (i+l.length)->∀ f,40*(L.length-i)+(11-lev)<=f->∃ ns f',bz ns=bz T/\40*(L.length-(i+l.length))+1<=f'/\eC L E f lev i=lK L E f' lev ns (i+l.length)
variable (L E) in
def er (l:List Tx) (T:List Nd):Prop:=∀ i,At L i l->Fo L 2 (i+l.length)->Rd L (λ f=>bF L E f i) 10 i (i+l.length) T
variable (L E) in
def Ap (l:List Tx) (T:List Nd):Prop:=∀ i,At L i l->Jy L (i+l.length)->Rd L (λ f=>ig L E f i) 11 i (i+l.length) T
variable (L E) in
def yI (l:List Tx) (T:List Nd):Prop:=∀ i,At L i l->Jy L (i+l.length)->Rd L (λ f=>js L E f i) 12 i (i+l.length) T
variable {l:List Tx} {T:List Nd} {lev:Nat}
theorem op9 (h:si L E l T):nE L E 9 l T:=by
 intro i hi hf f mc;obtain⟨f,rfl⟩:∃ g,f=g+1:=⟨f-1,by omega⟩;obtain⟨ns,h1,h2⟩:=h i hi hf.2.1 f (by omega);exact⟨ns,h1,by show eC L E (f+1) 9 i=_; rw[eC,if_pos rfl]; exact h2⟩
theorem ab1 {f lev i:Nat} {a:List Nd} (h:ox L lev i=none):lK L E (f+1) lev a i=.ok a i:=by rw[lK,h]
theorem Ij {f lev i:Nat} (h9:lev≠9) (h4:lev≠4):eC L E (f+1) lev i=(eC L E f (lev+1) i).bind λ a j=>lK L E f lev a j:=by rw[eC,if_neg h9,if_neg h4]
theorem Zh (h:nE L E (lev+1) l T) (h4:lev≠4) (h9:lev<=8):uy L E lev l T:=by
 intro i hi hf f mc;obtain⟨f,rfl⟩:∃ g,f=g+1:=⟨f-1,by omega⟩;obtain⟨ns,h1,h2⟩:=h i hi hf f (by omega);have h2:eC L E f (lev+1) i=.ok ns (i+l.length):=h2;exact⟨ns,f,h1,by omega,by rw[Ij (by omega) h4,h2]; rfl⟩
theorem Lt (h:uy L E lev l T):nE L E lev l T:=by
 intro i hi hf f mc;obtain⟨ns,f',h1,h2,h3⟩:=h i hi (hf.up (by omega)) f mc;obtain⟨f',rfl⟩:∃ g,f'=g+1:=⟨f'-1,by omega⟩;exact⟨ns,h1,by show eC L E f lev i=_; rw[h3,ab1 (hf.1 lev (bX _))]⟩
theorem op4 (h:nE L E 5 l T) (hd:Hd 5 l):nE L E 4 l T:=by
 intro i hi hf f mc;obtain⟨f,rfl⟩:∃ g,f=g+1:=⟨f-1,by omega⟩;obtain⟨ns,h1,h2⟩:=h i hi (hf.up (by omega)) f (by omega);have h2:eC L E f 5 i=.ok ns (i+l.length):=h2;obtain⟨x,r,rfl,k1,k2,k3,k4⟩:=hd;have hn:=mW hi k1 (k4 (by omega));refine⟨ns,h1,?_⟩;show eC L E (f+1) 4 i=_;rw[eC,if_neg (by omega),if_pos rfl,if_neg (by simp[hn])];exact h2
theorem ON {own:Nat} (h:nE L E own l T) (hd:Hd own l) (h9:own<=9):∀ (n lev:Nat),own=lev+n->2<=lev->nE L E lev l T
 | 0,lev,e,_=>by
    obtain rfl:own=lev:=by omega
    exact h
 | n+1,lev,e,h2=>by
   have ih:=ON h hd h9 n (lev+1) (by omega) (by omega)
   by_cases h4:lev=4
   . subst h4; exact op4 ih (hd.low (by omega))
   . exact Lt (Zh ih h4 (by omega))
theorem Fb {own:Nat} (h:nE L E own l T) (hd:Hd own l) (h9:own<=9) (h2:2<=lev) (hl:lev<=own):nE L E lev l T:=ON h hd h9 (own-lev) lev (by omega) h2
theorem Zg {own:Nat} (h:nE L E own l T) (hd:Hd own l) (h9:own<=9) (h2:2<=lev) (hl:lev<own) (h4:lev≠4):uy L E lev l T:=Zh (Fb h hd h9 (by omega) (by omega)) h4 (by omega)
theorem CK (h:nE L E 2 l T) (hd:Hd 2 l):er L E l T:=by
 intro i hi hf f mc;obtain⟨f,rfl⟩:∃ g,f=g+1:=⟨f-1,by omega⟩;obtain⟨ns,h1,h2⟩:=h i hi hf f (by omega);have h2:eC L E f 2 i=.ok ns (i+l.length):=h2;obtain⟨x,r,rfl,k1,k2,k3,k4⟩:=hd;obtain⟨k3,k5⟩:=k3 (bX _);simp only[F3,cK,List.not_mem_nil,or_false,not_or]at k3;obtain⟨n1,n2,n3,n4,n5,n6⟩:=k3;refine⟨ns,h1,?_⟩;show bF L E (f+1) i=_;rw[bF];simp only[mW hi k1 n1,mW hi k1 n2,mW hi k1 n3,mW hi k1 n4,mW hi k1 n5,mW hi k1 n6,bZ,if_false];rw[if_neg ?_]
 . exact h2
 rintro⟨e1,e2⟩;rw[Cf hi]at e1;have e1:x.1=1:=by simpa using e1
 cases r with
 | nil =>
   have:=hf.2.2;simp only[eX,k0]at this;rw[this]at e2; cases e2
 | cons y r =>
   have hy:=k5 e1 y r rfl;have h':=hi.tail;rw[ey h',hy]at e2;cases e2
theorem Al (h:er L E l T):Ap L E l T:=by
 intro i hi hf f mc;obtain⟨f,rfl⟩:∃ g,f=g+1:=⟨f-1,by omega⟩;obtain⟨ns,h1,h2⟩:=h i hi hf.1 f (by omega);have h2:bF L E f i=.ok ns (i+l.length):=h2;refine⟨ns,h1,?_⟩;show ig L E (f+1) i=_;rw[ig,h2];show nN L E f _ ns 1 (i+l.length)=_;obtain⟨f,rfl⟩:∃ g,f=g+1:=⟨f-1,by omega⟩;rw[nN,if_neg hf.2,if_pos rfl]
theorem adZ {i:Nat} {w:aG} (h:At L i (l++[aB w])):At L (i+l.length) (aB w::[]):=h.app.2
theorem yM (h:Ap L E l T):si L E (aB bK::l++[aB bJ]) T:=by
 intro i hi hf f mc;have hlen:i+(aB bK::l++[aB bJ]).length=i+1+l.length+1:=by simp; omega
 have hle:i+(aB bK::l++[aB bJ]).length<=L.length:=hi.le';rw[hlen]at hle;obtain⟨f,rfl⟩:∃ g,f=g+1:=⟨f-1,by omega⟩;have h1:At L (i+1) (l++[aB bJ]):=hi.tail;have he:=adZ h1;obtain⟨ns,h2,h3⟩:=h (i+1) h1.app.1 (vC (by decide) (by decide) he) f (by omega);have h3:ig L E f (i+1)=.ok ns (i+1+l.length):=h3;have hw:∀ v,bm L i v=(((aB bK).1==3||(aB bK).1==4)&&(aB bK).2==v):=λ v=>ey hi;refine⟨ns,h2,?_⟩;show gI L E (f+1) i=_;rw[gI];have c1:bm L i dN=false:=hw _;have c2:bm L i dR=false:=hw _;have c3:bm L i fU=false:=hw _;have c4:bm L i ik=false:=hw _;have c5:bm L i kz=false:=hw _;have c6:bm L i mT=false:=hw _;have c7:bm L i bK=true:=hw _;simp only[c1,c2,c3,c4,c5,c6,c7,bZ,if_false,if_true];rw[h3];show (bM L bJ (i+1+l.length)).bind _=_;rw[dx he,hlen]; rfl
structure Good (L:List Tk) (E:Nat) (k:Int) (l:List Tx) (T:List Nd):Prop where
 term:Ap L E l T
 first:k≠9->er L E l T
 op:2<=bP k->nE L E (bP k) l T
 ch:bP k=2\/bP k=3\/bP k=6\/bP k=7\/bP k=8->uy L E (bP k) l T
 hd:Hd (bP k) l
theorem Ch (k:Int):bP k<=9:=by
 unfold bP; repeat' split
 all_goals omega
section
variable {k:Int} (g:Good L E k l T)
include g
theorem Good.Pp {least:Nat}:Hd least (dP k least l):=by
 unfold dP;split
 . exact g.hd.low ‹_›
 . exact Hd.par
theorem Good.Pq {least:Nat} (h2:2<=lev) (hl:lev<=least) (h9:least<=9):nE L E lev (dP k least l) T:=by
 unfold dP;split
 . rename_i h;exact Fb (g.op (by omega)) g.hd (Ch k) h2 (by omega)
 . exact Fb (op9 (yM g.term)) Hd.par (bX _) h2 (by omega)
theorem Good.ad4 (h:lev=2\/lev=3\/lev=6\/lev=7\/lev=8):uy L E lev (dP k lev l) T:=by
 unfold dP;split
 . rename_i h'
   by_cases e:lev=bP k
   . subst e; exact g.ch h
   . exact Zg (g.op (by omega)) g.hd (Ch k) (by omega) (by omega) (by omega)
 . exact Zg (op9 (yM g.term)) Hd.par (bX _) (by omega) (by omega) (by omega)
theorem Good.j6:er L E (dP k 1 l) T:=by
 unfold dP;split
 . rename_i h;exact g.first λ e=>by subst e; exact absurd h (by decide)
 . exact CK (Fb (op9 (yM g.term)) Hd.par (bX _) (by omega) (by omega)) (Hd.par)
end
theorem Cc {k:Int} (h2:2<=bP k) (h:nE L E (bP k) l T) (hd:Hd (bP k) l) (hc:bP k=2\/bP k=3\/bP k=6\/bP k=7\/bP k=8->uy L E (bP k) l T):Good L E k l T :=
 have h1:er L E l T:=CK (Fb h hd (Ch k) (bX _) h2) (hd.low h2)
 ⟨Al h1,λ _=>h1,λ _=>h,hc,hd⟩
theorem NQ {k:Int} (h2:bP k=2\/bP k=3\/bP k=6\/bP k=7\/bP k=8) (h:uy L E (bP k) l T) (hd:Hd (bP k) l):Good L E k l T:=Cc (by omega) (Lt h) hd λ _=>h
theorem ni {k:Int} (h9:bP k=9) (h:si L E l T) (hd:Hd 9 l):Good L E k l T:=Cc (by omega) (h9▸op9 h) (h9▸hd) (by omega)
theorem oW {k:Int} (h1:bP k=1) (h:er L E l T) (hd:Hd 1 l):Good L E k l T:=⟨Al h,λ _=>h,by omega,by omega,h1▸hd⟩
end
end Go.Rip
namespace Go.Rip
theorem Ih {α:Type} {x:α} {a b:Nat} (h:a=b):(PR.ok x a:PR α)=.ok x b:=by rw[h]
@[simp] theorem aX {α β:Type} {a:α} {i:Nat} {f:α->Nat->PR β}:(PR.ok a i).bind f=f a i:=rfl
section
variable {L:List Tk} {E:Nat} {l l0 l1 l2 r:List Tx} {T T0 T1 T2:List Nd} {i f:Nat} {w:aG} {a:Int}
theorem er.go (g:er L E l T) (h:At L i (l++aB w::r)) (hw:w∈stops) (hf:40*(L.length-i)+10<=f):∃ ns,bz ns=bz T/\bF L E f i=.ok ns (i+l.length)/\At L (i+l.length) (aB w::r):=by
 obtain⟨ns,h1,h2⟩:=g i h.app.1 (xT hw h.app.2) f hf;exact⟨ns,h1,h2,h.app.2⟩
theorem At.lt {x:Tx} (h:At L i (x::l)):i+1<=L.length:=by
 have:=h.le';simp at this; omega
theorem W5 (g0:er L E l0 T0) (g1:er L E l1 T1) (g2:er L E l2 T2):er L E (aB pg::(l0++aB oL::(l1++aB fe::l2))) (node 10 [] 0 0 a (T0++T1++T2)):=by
 intro i hi hf f mc;have hl:=hi.lt;obtain⟨f,rfl⟩:∃ g,f=g+1:=⟨f-1,by omega⟩;obtain⟨n0,b0,p0,q0⟩:=g0.go hi.tail (w:=oL) (f:=f) (by decide) (by omega);have rY:=q0.lt;obtain⟨n1,b1,p1,q1⟩:=g1.go q0.tail (w:=fe) (f:=f) (by decide) (by omega);have Hu:=q1.lt;have hj:i+(aB pg::(l0++aB oL::(l1++aB fe::l2))).length=i+1+l0.length+1+l1.length+1+l2.length:=by simp; omega
 rw[hj]at hf ⊢;obtain⟨n2,b2,p2⟩:=g2 _ q1.tail hf f (by omega);have p2:bF L E f _=.ok n2 _:=p2;refine⟨node 10 [] 0 0 (dv L E i) (n0++n1++n2),fl (iq (iq b0 b1) b2),?_⟩;show bF L E (f+1) i=_;rw[bF,if_pos (fQ hi),p0,aX,dx q0,aX,p1,aX,dx q1,aX,p2,aX]
theorem MT (g0:er L E l0 T0) (g1:er L E l1 T1):er L E (aB gH::(l0++aB sY::l1)) (node 11 [] 0 0 a (T0++T1)):=by
 intro i hi hf f mc;have hl:=hi.lt;obtain⟨f,rfl⟩:∃ g,f=g+1:=⟨f-1,by omega⟩;obtain⟨n0,b0,p0,q0⟩:=g0.go hi.tail (w:=sY) (f:=f) (by decide) (by omega);have rY:=q0.lt;have hj:i+(aB gH::(l0++aB sY::l1)).length=i+1+l0.length+1+l1.length:=by simp; omega
 rw[hj]at hf ⊢;obtain⟨n1,b1,p1⟩:=g1 _ q0.tail hf f (by omega);have p1:bF L E f _=.ok n1 _:=p1;have hw:∀ v,bm L i v=(((aB gH).1==3||(aB gH).1==4)&&(aB gH).2==v):=λ v=>ey hi;have c1:bm L i pg=false:=hw _;refine⟨node 11 [] 0 0 (dv L E i) (n0++n1),fl (iq b0 b1),?_⟩;show bF L E (f+1) i=_;rw[bF,if_neg (by simp[c1]),if_pos (fQ hi),p0,aX,dx q0,aX,p1,aX]
theorem Ka (g0:er L E l0 T0) (g1:er L E l1 T1):er L E (aB ia::(l0++aB fe::l1)) (node 15 [] 0 0 a (T0++T1)):=by
 intro i hi hf f mc;have hl:=hi.lt;obtain⟨f,rfl⟩:∃ g,f=g+1:=⟨f-1,by omega⟩;obtain⟨n0,b0,p0,q0⟩:=g0.go hi.tail (w:=fe) (f:=f) (by decide) (by omega);have rY:=q0.lt;have hj:i+(aB ia::(l0++aB fe::l1)).length=i+1+l0.length+1+l1.length:=by simp; omega
 rw[hj]at hf ⊢;obtain⟨n1,b1,p1⟩:=g1 _ q0.tail hf f (by omega);have p1:bF L E f _=.ok n1 _:=p1;have hw:∀ v,bm L i v=(((aB ia).1==3||(aB ia).1==4)&&(aB ia).2==v):=λ v=>ey hi;have c1:bm L i pg=false:=hw _;have c2:bm L i gH=false:=hw _;have c3:bm L i lY=false:=hw _;have c4:bm L i jb=false:=hw _;refine⟨node 15 [] 0 0 (dv L E i) (n0++n1),fl (iq b0 b1),?_⟩;show bF L E (f+1) i=_;rw[bF,if_neg (by simp[c1]),if_neg (by simp[c2]),if_neg (by simp[c3]),if_neg (by simp[c4]),if_pos (fQ hi),p0,aX,dx q0,aX,p1,aX]
theorem MS {x:aG} (g0:er L E l0 T0) (g1:er L E l1 T1):er L E (aB jb::eK x::aB kr::(l0++aB fe::l1)) (node 13 x 0 0 a (T0++T1)):=by
 intro i hi hf f mc;have hl:=hi.lt;obtain⟨f,rfl⟩:∃ g,f=g+1:=⟨f-1,by omega⟩;have h1:=hi.tail;have h2:=h1.tail;have:=h1.lt;have:=h2.lt;obtain⟨n0,b0,p0,q0⟩:=g0.go h2.tail (w:=fe) (f:=f) (by decide) (by omega);have rY:=q0.lt;have hj:i+(aB jb::eK x::aB kr::(l0++aB fe::l1)).length=i+1+1+1+l0.length+1+l1.length:=by simp; omega
 rw[hj]at hf ⊢;obtain⟨n1,b1,p1⟩:=g1 _ q0.tail hf f (by omega);have p1:bF L E f _=.ok n1 _:=p1;have hw:∀ v,bm L i v=(((aB jb).1==3||(aB jb).1==4)&&(aB jb).2==v):=λ v=>ey hi;have c1:bm L i pg=false:=hw _;have c2:bm L i gH=false:=hw _;have c3:bm L i lY=false:=hw _;refine⟨node 13 x 0 0 (dv L E i) (n0++n1),fl (iq b0 b1),?_⟩;show bF L E (f+1) i=_;rw[bF,if_neg (by simp[c1]),if_neg (by simp[c2]),if_neg (by simp[c3]),if_pos (fQ hi),lJ h1,aX,dx h2,aX,p0,aX,dx q0,aX,p1,aX]
theorem R7 {x:aG} {n m:Int} (hn:dV n=true) (hm:dV m=true) (g0:er L E l0 T0):er L E (aB lY::eK x::aB dk::jh n::aB bQ::jh m::aB kr::l0) (node 12 x n m a T0):=by
 intro i hi hf f mc;have hl:=hi.lt;obtain⟨f,rfl⟩:∃ g,f=g+1:=⟨f-1,by omega⟩;have h1:=hi.tail;have h2:=h1.tail;have h3:=h2.tail;have h4:=h3.tail;have h5:=h4.tail;have h6:=h5.tail;have:=h6.lt;have hj:i+(aB lY::eK x::aB dk::jh n::aB bQ::jh m::aB kr::l0).length=i+1+1+1+1+1+1+1+l0.length:=by simp; omega
 rw[hj]at hf ⊢;obtain⟨n1,b1,p1⟩:=g0 _ h6.tail hf f (by omega);have p1:bF L E f _=.ok n1 _:=p1;have hw:∀ v,bm L i v=(((aB lY).1==3||(aB lY).1==4)&&(aB lY).2==v):=λ v=>ey hi;have c1:bm L i pg=false:=hw _;have c2:bm L i gH=false:=hw _;refine⟨node 12 x n m (dv L E i) n1,fl b1,?_⟩;show bF L E (f+1) i=_;rw[bF,if_neg (by simp[c1]),if_neg (by simp[c2]),if_pos (fQ hi),lJ h1,aX,dx h2,aX,rH hn h3,aX,dx h4,aX,rH hm h5,aX,dx h6,aX,p1,aX]
theorem Kb {x:aG} {n:Int} (hn:dV n=true) (g0:er L E l0 T0):er L E (aB iU::eK x::aB bQ::jh n::aB kr::l0) (node 14 x n 0 a T0):=by
 intro i hi hf f mc;have hl:=hi.lt;obtain⟨f,rfl⟩:∃ g,f=g+1:=⟨f-1,by omega⟩;have h1:=hi.tail;have h2:=h1.tail;have h3:=h2.tail;have h4:=h3.tail;have:=h4.lt;have hj:i+(aB iU::eK x::aB bQ::jh n::aB kr::l0).length=i+1+1+1+1+1+l0.length:=by simp; omega
 rw[hj]at hf ⊢;obtain⟨n1,b1,p1⟩:=g0 _ h4.tail hf f (by omega);have p1:bF L E f _=.ok n1 _:=p1;have hw:∀ v,bm L i v=(((aB iU).1==3||(aB iU).1==4)&&(aB iU).2==v):=λ v=>ey hi;have c1:bm L i pg=false:=hw _;have c2:bm L i gH=false:=hw _;have c3:bm L i lY=false:=hw _;have c4:bm L i jb=false:=hw _;have c5:bm L i ia=false:=hw _;refine⟨node 14 x n 0 (dv L E i) n1,fl b1,?_⟩;show bF L E (f+1) i=_;rw[bF,if_neg (by simp[c1]),if_neg (by simp[c2]),if_neg (by simp[c3]),if_neg (by simp[c4]),if_neg (by simp[c5]),if_pos (fQ hi),lJ h1,aX,dx h2,aX,rH hn h3,aX,dx h4,aX,p1,aX]
theorem Jm {x v:aG} (h:At L i (eK x::l)):bm L i v=false:=by rw[ey h]; rfl
theorem aho {n:Int} {v:aG} (h:At L i (jh n::l)):bm L i v=false:=by rw[ey h]; rfl
theorem R8 {x:aG} (g0:er L E l0 T0):er L E (eK x::aB bQ::l0) (node 16 x 0 0 a T0):=by
 intro i hi hf f mc;have hl:=hi.lt;obtain⟨f,rfl⟩:∃ g,f=g+1:=⟨f-1,by omega⟩;have h1:=hi.tail;have:=h1.lt;have hj:i+(eK x::aB bQ::l0).length=i+1+1+l0.length:=by simp; omega
 rw[hj]at hf ⊢;obtain⟨n1,b1,p1⟩:=g0 _ h1.tail hf f (by omega);have p1:bF L E f _=.ok n1 _:=p1;refine⟨node 16 x 0 0 (dv L E i) n1,fl b1,?_⟩;show bF L E (f+1) i=_;have hk:rF L i 1=true:=by rw[Cf hi]; rfl
 rw[bF];simp only[Jm hi,bZ,if_false];rw[if_pos ⟨hk,fQ h1⟩,lJ hi,aX,dx h1,aX,p1,aX]
theorem ad7 {k:Int} (hk:k∈oQ) (h5:bP k≠5) (h8:bP k≠8) (g0:uy L E (bP k) l0 T0) (g1:nE L E (bP k+1) l1 T1) (h2:2<=bP k):uy L E (bP k) (l0++aB (ki k)::l1) (node k [] 0 0 a (T0++T1)):=by
 intro i hi hf f mc;obtain⟨q0,q1⟩:=hi.app;obtain⟨o1,o2⟩:=QE hk q1;have:=q1.lt;obtain⟨n0,f',b0,ly,p0⟩:=g0 i q0 o2 f mc;obtain⟨f',rfl⟩:∃ g,f'=g+1:=⟨f'-1,by omega⟩;have hj:i+(l0++aB (ki k)::l1).length=i+l0.length+1+l1.length:=by simp; omega
 rw[hj]at hf ⊢;obtain⟨n1,b1,p1⟩:=g1 _ q1.tail hf f' (by omega);have p1:eC L E f' _ _=.ok n1 _:=p1;refine⟨node k [] 0 0 (dv L E (i+l0.length)) (n0++n1),f',fl (iq b0 b1),by omega,?_⟩;rw[p0,lK,o1];simp only[if_neg h8,if_neg h5];rw[p1,aX]
theorem abY {k:Int} (hk:k∈oQ) (h5:bP k=5) (g0:nE L E 6 l0 T0) (g1:nE L E 6 l1 T1):nE L E 5 (l0++aB (ki k)::l1) (node k [] 0 0 a (T0++T1)):=by
 intro i hi hf f mc;obtain⟨q0,q1⟩:=hi.app;obtain⟨o1,o2⟩:=QE hk q1;rw[h5]at o1 o2;have:=q1.lt;obtain⟨f,rfl⟩:∃ g,f=g+1:=⟨f-1,by omega⟩;obtain⟨n0,b0,p0⟩:=g0 i q0 o2 f (by omega);have p0:eC L E f 6 i=.ok n0 _:=p0;have hj:i+(l0++aB (ki k)::l1).length=i+l0.length+1+l1.length:=by simp; omega
 rw[hj]at hf ⊢;obtain⟨f,rfl⟩:∃ g,f=g+1:=⟨f-1,by omega⟩;obtain⟨n1,b1,p1⟩:=g1 _ q1.tail (hf.up (by omega)) f (by omega);have p1:eC L E f 6 _=.ok n1 _:=p1;refine⟨node k [] 0 0 (dv L E (i+l0.length)) (n0++n1),fl (iq b0 b1),?_⟩;show eC L E (f+1+1) 5 i=_;rw[Ij (by omega) (by omega),p0,aX,lK,o1];simp only[show ¬ ((5:Nat)=8) by omega,if_false,if_true];rw[p1,aX]
theorem agP {n:Int} (hn:dV n=true) (g0:uy L E 8 l0 T0):uy L E 8 (l0++aB uI::jh n::[]) (node 25 [] n 0 a T0):=by
 intro i hi hf f mc;obtain⟨q0,q1⟩:=hi.app;obtain⟨o1,o2⟩:=QE (k:=25) (by decide) q1;have:=q1.lt;have:=q1.tail.lt;obtain⟨n0,f',b0,ly,p0⟩:=g0 i q0 o2 f mc;obtain⟨f',rfl⟩:∃ g,f'=g+1:=⟨f'-1,by omega⟩;have hj:i+(l0++aB uI::jh n::[]).length=i+l0.length+1+1:=by simp; omega
 rw[hj]at hf ⊢;refine⟨node 25 [] n 0 (dv L E (i+l0.length)) n0,f',fl b0,by omega,?_⟩;have o1:ox L 8 (i+l0.length)=some 25:=o1;rw[p0,lK,o1];simp only[if_true];rw[rH hn q1.tail,aX]
theorem ae4 (g0:nE L E 4 l0 T0):nE L E 4 (aB qD::l0) (node 19 [] 0 0 a T0):=by
 intro i hi hf f mc;have:=hi.lt;obtain⟨f,rfl⟩:∃ g,f=g+1:=⟨f-1,by omega⟩;have hj:i+(aB qD::l0).length=i+1+l0.length:=by simp; omega
 rw[hj]at hf ⊢;obtain⟨n0,b0,p0⟩:=g0 _ hi.tail hf f (by omega);have p0:eC L E f 4 _=.ok n0 _:=p0;refine⟨node 19 [] 0 0 (dv L E i) n0,fl b0,?_⟩;show eC L E (f+1) 4 i=_;rw[eC,if_neg (by omega),if_pos rfl,if_pos (fQ hi),p0,aX]
theorem WD {n:Int} (hn:dV n=true):si L E [jh n] (node 26 [] n 0 a []):=by
 intro i hi hf f mc;have:=hi.lt;obtain⟨f,rfl⟩:∃ g,f=g+1:=⟨f-1,by omega⟩;refine⟨node 26 [] n 0 (dv L E i) [],fl rfl,?_⟩;show gI L E (f+1) i=_;have hk:rF L i 2=true:=by rw[Cf hi]; rfl
 rw[gI];simp only[aho hi,bZ,if_false,hk,if_true];rw[rH hn hi,aX]; rfl
theorem wj {k:Int} (h:(k,w)∈[((27:Int),dN),(28,dR),(29,fU),(30,ik)]):si L E [aB w] (node k [] 0 0 a []):=by
 intro i hi hf f mc;have:=hi.lt;obtain⟨f,rfl⟩:∃ g,f=g+1:=⟨f-1,by omega⟩;refine⟨node k [] 0 0 (dv L E i) [],fl rfl,?_⟩;show gI L E (f+1) i=_;have hw:∀ v,bm L i v=(((aB w).1==3||(aB w).1==4)&&(aB w).2==v):=λ v=>ey hi;rw[gI];simp only[hw];simp only[cK,List.not_mem_nil,or_false,hY]at h;rcases h with ⟨rfl,rfl⟩|⟨rfl,rfl⟩|⟨rfl,rfl⟩|⟨rfl,rfl⟩<;>rfl
theorem Ru {x:aG}:si L E [aB kz,eK x] (node 31 x 0 0 a []):=by
 intro i hi hf f mc;have:=hi.lt;obtain⟨f,rfl⟩:∃ g,f=g+1:=⟨f-1,by omega⟩;refine⟨node 31 x 0 0 (dv L E i) [],fl rfl,?_⟩;show gI L E (f+1) i=_;have hw:∀ v,bm L i v=(((aB kz).1==3||(aB kz).1==4)&&(aB kz).2==v):=λ v=>ey hi;have c1:bm L i dN=false:=hw _;have c2:bm L i dR=false:=hw _;have c3:bm L i fU=false:=hw _;have c4:bm L i ik=false:=hw _;rw[gI];simp only[c1,c2,c3,c4,bZ,if_false];rw[if_pos (fQ hi),lJ hi.tail,aX]; rfl
theorem WC {x:aG}:si L E [aB mT,eK x] (node 32 x 0 0 a []):=by
 intro i hi hf f mc;have:=hi.lt;obtain⟨f,rfl⟩:∃ g,f=g+1:=⟨f-1,by omega⟩;refine⟨node 32 x 0 0 (dv L E i) [],fl rfl,?_⟩;show gI L E (f+1) i=_;have hw:∀ v,bm L i v=(((aB mT).1==3||(aB mT).1==4)&&(aB mT).2==v):=λ v=>ey hi;have c1:bm L i dN=false:=hw _;have c2:bm L i dR=false:=hw _;have c3:bm L i fU=false:=hw _;have c4:bm L i ik=false:=hw _;have c5:bm L i kz=false:=hw _;rw[gI];simp only[c1,c2,c3,c4,c5,bZ,if_false];rw[if_pos (fQ hi),lJ hi.tail,aX]; rfl
theorem aaa {x:aG} (h:At L i (eK x::l)):rF L i 2=false:=by rw[Cf h]; rfl
theorem Rv {x:aG}:si L E [eK x] (node 33 x 0 0 a []):=by
 intro i hi hf f mc;have:=hi.lt;obtain⟨f,rfl⟩:∃ g,f=g+1:=⟨f-1,by omega⟩;refine⟨node 33 x 0 0 (dv L E i) [],fl rfl,?_⟩;have hf:bm L (i+1) bK=false:=hf;show gI L E (f+1) i=_;rw[gI];simp only[Jm hi,aaa hi,bZ,if_false];rw[lJ hi,aX,if_neg (by simp[hf])]; rfl
end
end Go.Rip
namespace Go.Rip
theorem oR (w:aG):∀ (l:List Tx) (ls:List (List Tx)),dh w (l::ls)=l++ls.flatMap λ m=>aB w::m
 | l,[]=>by simp[dh]
 | l,m::ls=>by rw[dh,oR w m ls]; simp
abbrev Pt:=List Tx×List Nd
def Pt.sep (w:aG) (P:List Pt):List Tx:=P.flatMap λ p=>aB w::p.1
def Pt.all (P:List Pt):List Nd:=P.flatMap λ p=>p.2
theorem Pt.Fw (w:aG) (p:Pt) (P:List Pt):dh w ((p::P).map Prod.fst)=p.1++Pt.sep w P:=by
 rw[dH,oR];unfold Pt.sep;rw[List.flatMap_map]
section
variable {L:List Tk} {E:Nat} {l l0 l1 l2 r:List Tx} {T T0 T1 T2:List Nd} {w:aG} {a:Int}
theorem Good.arg {k:Int} (g:Good L E k l T):yI L E l T:=by
 intro i hi hf f mc;obtain⟨f,rfl⟩:∃ g,f=g+1:=⟨f-1,by omega⟩;obtain⟨ns,h1,h2⟩:=g.term i hi hf f (by omega);have h2:ig L E f i=.ok ns (i+l.length):=h2;obtain⟨x,r,rfl,k1,k2,_⟩:=g.hd;simp only[Dq,cK,List.not_mem_nil,or_false,not_or]at k2;refine⟨ns,h1,?_⟩;show js L E (f+1) i=_;rw[js,if_neg (by simp[mW hi k1 k2.1]),if_neg (by simp[mW hi k1 k2.2.1])];exact h2
theorem Ip:∀ (P:List Pt) (i f:Nat) (acc:List Nd),(∀ p∈P,yI L E p.1 p.2)->At L i (Pt.sep cH P++aB bJ::r)->40*(L.length-i)+1<=f->∃ ns,bz ns=bz (Pt.all P)/\kO L E f acc i=.ok (acc++ns) (i+(Pt.sep cH P).length)
 | [],i,f,acc,hP,hi,hf=>by
   obtain⟨f,rfl⟩:∃ g,f=g+1:=⟨f-1,by omega⟩;have hi:At L i (aB bJ::r):=hi;refine⟨[],rfl,?_⟩;have hc:bm L i cH=false:=by rw[ey hi]; rfl
   rw[kO,if_neg (by simp[hc]),gx]; rfl
 | p::P,i,f,acc,hP,hi,hf=>by
   obtain⟨f,rfl⟩:∃ g,f=g+1:=⟨f-1,by omega⟩;have hi:At L i (aB cH::(p.1++(Pt.sep cH P++aB bJ::r))):=by simpa [Pt.sep] using hi
   have hl:=hi.lt;have h1:=hi.tail;have h2:=h1.app.2;have eJ:Jy L (i+1+p.1.length):=by
    cases P with
    | nil=>exact vC (w:=bJ) (by decide) (by decide) h2
    | cons q P=>exact vC (w:=cH) (by decide) (by decide) h2
   obtain⟨n0,b0,p0⟩:=hP p (by simp) _ h1.app.1 eJ f (by omega);have p0:js L E f _=.ok n0 _:=p0;obtain⟨ns,b1,p1⟩:=Ip P _ f (acc++n0) (λ q hq=>hP q (by simp[hq])) h2 (by omega);refine⟨n0++ns,by rw[Pt.all,List.flatMap_cons]; exact iq b0 b1,?_⟩;rw[kO,if_pos (fQ hi),p0,aX,p1,dc];exact Ih (by simp[Pt.sep]; omega)
theorem Rs {x:aG} {p:Pt} {P:List Pt} (hP:∀ q∈p::P,yI L E q.1 q.2):si L E (eK x::aB bK::dh cH ((p::P).map Prod.fst)++[aB bJ]) (node 34 x 0 0 a (Pt.all (p::P))):=by
 intro i hi hf f mc;obtain⟨f,rfl⟩:∃ g,f=g+1:=⟨f-1,by omega⟩;rw[Pt.Fw]at hi ⊢;have hi:At L i (eK x::aB bK::(p.1++(Pt.sep cH P++aB bJ::[]))):=by simpa using hi
 have hl:=hi.lt;have h1:=hi.tail;have:=h1.lt;have h2:=h1.tail.app.2;have eJ:Jy L (i+1+1+p.1.length):=by
  cases P with
  | nil=>exact vC (w:=bJ) (by decide) (by decide) h2
  | cons q P=>exact vC (w:=cH) (by decide) (by decide) h2
 obtain⟨n0,b0,p0⟩:=hP p (by simp) _ h1.tail.app.1 eJ f (by omega);have p0:js L E f _=.ok n0 _:=p0;obtain⟨ns,b1,p1⟩:=Ip P _ f n0 (λ q hq=>hP q (by simp[hq])) h2 (by omega);refine⟨node 34 x 0 0 (dv L E i) (n0++ns),fl (by rw[Pt.all,List.flatMap_cons]; exact iq b0 b1),?_⟩;show gI L E (f+1) i=_;rw[gI];simp only[Jm hi,aaa hi,bZ,if_false];rw[lJ hi,aX,if_pos (fQ h1),p0,aX,p1,aX,dx h2.app.2,aX];exact Ih (by simp; omega)
theorem Z0 {i:Nat} {lev:Nat} (hd:Hd lev l) (h:At L i (l++r)):i+1<=L.length/\uF L i=false:=by
 obtain⟨x,r',rfl,k1,k2,_⟩:=hd;simp only[Dq,cK,List.not_mem_nil,or_false,not_or]at k2;have h:At L i (x::(r'++r)):=h;refine⟨h.lt,?_⟩;unfold uF;rw[mW h k1 k2.2.2.1,mW h k1 k2.2.2.2.1,mW h k1 k2.2.2.2.2]; rfl
theorem TU:∀ (P:List Pt) (i f:Nat) (at_:Int) (acc:List Nd) (many:Nat),(∀ p∈P,er L E p.1 p.2/\Hd 0 p.1)->At L i (Pt.sep cC P)->Jy L (i+(Pt.sep cC P).length)->40*(L.length-i)+1<=f->∃ ns,bz ns=bz (Pt.all P)/\nN L E f at_ acc many i=.ok (if many+P.length=1 then acc++ns else node 9 [] 0 0 at_ (acc++ns)) (i+(Pt.sep cC P).length)
 | [],i,f,at_,acc,many,hP,hi,hf,mc=>by
   obtain⟨f,rfl⟩:∃ g,f=g+1:=⟨f-1,by omega⟩;have hf:Jy L i:=hf;refine⟨[],rfl,?_⟩;rw[nN,if_neg hf.2];simp only[gx,k0,Nat.add_zero]; rfl
 | p::P,i,f,at_,acc,many,hP,hi,hf,mc=>by
   obtain⟨f,rfl⟩:∃ g,f=g+1:=⟨f-1,by omega⟩;have hj:i+(Pt.sep cC (p::P)).length=i+1+p.1.length+(Pt.sep cC P).length:=by simp[Pt.sep]; omega
   rw[hj]at hf ⊢;have hi:At L i (aB cC::(p.1++Pt.sep cC P)):=by simpa [Pt.sep] using hi
   have hl:=hi.lt;have h1:=hi.tail;have h2:=h1.app.2;obtain⟨g1,g2⟩:=hP p (by simp);obtain⟨k1,k2⟩:=Z0 g2 h1;have eJ:Fo L 2 (i+1+p.1.length):=by
    cases P with
    | nil=>exact hf.1
    | cons q P=>exact xT (w:=cC) (by decide) h2
   obtain⟨n0,b0,p0⟩:=g1 _ h1.app.1 eJ f (by omega);have p0:bF L E f _=.ok n0 _:=p0;obtain⟨ns,b1,p1⟩:=TU P _ f at_ (acc++n0) (many+1) (λ q hq=>hP q (by simp[hq])) h2 hf (by omega);refine⟨n0++ns,by rw[Pt.all,List.flatMap_cons]; exact iq b0 b1,?_⟩;rw[nN,if_pos ⟨fQ hi,by omega,k2⟩,p0,aX,p1,dc,eX,show many+1+P.length=many+(P.length+1) by omega]
theorem YL {p q:Pt} {P:List Pt} (hP:∀ x∈p::q::P,er L E x.1 x.2/\Hd 0 x.1):Ap L E (dh cC ((p::q::P).map Prod.fst)) (node 9 [] 0 0 a (Pt.all (p::q::P))):=by
 intro i hi hf f mc;obtain⟨f,rfl⟩:∃ g,f=g+1:=⟨f-1,by omega⟩;rw[Pt.Fw]at hi hf ⊢;have hj:i+(p.1++Pt.sep cC (q::P)).length=i+p.1.length+(Pt.sep cC (q::P)).length:=by simp; omega
 rw[hj]at hf ⊢;obtain⟨g1,g2⟩:=hP p (by simp);obtain⟨k1,k2⟩:=Z0 g2 hi;have h2:=hi.app.2;obtain⟨n0,b0,p0⟩:=g1 _ hi.app.1 (xT (w:=cC) (by decide) (show At L _ (aB cC::(q.1++Pt.sep cC P)) from by simpa [Pt.sep] using h2)) f (by omega);have p0:bF L E f _=.ok n0 _:=p0;have hle:=hi.app.1.le (by omega);have mD:1<=p.1.length:=by
  obtain⟨x,r',e,_⟩:=g2;rw[e]; simp
 obtain⟨ns,b1,p1⟩:=TU (q::P) _ f (dv L E (i+p.1.length)) n0 1 (λ x hx=>hP x (by simp only[cK]at hx ⊢; exact .inr hx)) h2 hf (by omega);refine⟨node 9 [] 0 0 (dv L E (i+p.1.length)) (n0++ns),fl (by rw[Pt.all,List.flatMap_cons]; exact iq b0 b1),?_⟩;show ig L E (f+1) i=_;rw[ig,p0,aX,p1,if_neg (by simp)]
def kN (L:List Tk) (one:Nat->PR (List Nd)) (l:List Tx) (T:List Nd):Prop:=∀ i,At L i l->∃ ns,bz ns=bz T/\one i=.ok ns (i+l.length)
theorem OA {one:Nat->PR (List Nd)}:∀ (P:List Pt) (i f:Nat) (acc:List Nd),(∀ p∈P,kN L one p.1 p.2)->At L i (Pt.sep cH P++aB bJ::r)->L.length-i<f->∃ ns,bz ns=bz (Pt.all P)/\mO L one f acc i=.ok (acc++ns) (i+(Pt.sep cH P).length)
 | [],i,f,acc,hP,hi,hf=>by
   obtain⟨f,rfl⟩:∃ g,f=g+1:=⟨f-1,by omega⟩;have hi:At L i (aB bJ::r):=hi;refine⟨[],rfl,?_⟩;have hc:bm L i cH=false:=by rw[ey hi]; rfl
   rw[mO,if_neg (by simp[hc]),gx]; rfl
 | p::P,i,f,acc,hP,hi,hf=>by
   obtain⟨f,rfl⟩:∃ g,f=g+1:=⟨f-1,by omega⟩;have hi:At L i (aB cH::(p.1++(Pt.sep cH P++aB bJ::r))):=by simpa [Pt.sep] using hi
   have hl:=hi.lt;have h1:=hi.tail;have h2:=h1.app.2;obtain⟨n0,b0,p0⟩:=hP p (by simp) _ h1.app.1;obtain⟨ns,b1,p1⟩:=OA P _ f (acc++n0) (λ q hq=>hP q (by simp[hq])) h2 (by omega);refine⟨n0++ns,by rw[Pt.all,List.flatMap_cons]; exact iq b0 b1,?_⟩;rw[mO,if_pos (fQ hi),p0,aX,p1,dc];exact Ih (by simp[Pt.sep]; omega)
theorem Bv {one:Nat->PR (List Nd)} {p:Pt} {P:List Pt} {i f:Nat} (hP:∀ q∈p::P,kN L one q.1 q.2) (hi:At L i (dh cH ((p::P).map Prod.fst)++aB bJ::r)) (hf:L.length-i<f):∃ ns,bz ns=bz (Pt.all (p::P))/\jW L one f i=.ok ns (i+(dh cH ((p::P).map Prod.fst)).length)/\At L (i+(dh cH ((p::P).map Prod.fst)).length) (aB bJ::r):=by
 refine (λ (h:_/\_)=>?_) hi.app;rw[Pt.Fw]at hi h ⊢;rw[dc]at hi;obtain⟨n0,b0,p0⟩:=hP p (by simp) _ hi.app.1;obtain⟨ns,b1,p1⟩:=OA P _ f n0 (λ q hq=>hP q (by simp[hq])) hi.app.2 (by omega);refine⟨n0++ns,by rw[Pt.all,List.flatMap_cons]; exact iq b0 b1,?_,h.2⟩;rw[jW,p0,aX,p1];exact Ih (by simp; omega)
def B2 (k n:Int):List Tx:=if k=6 then (if n=1 then [aB pX] else if n=2 then [aB lP] else [aB gY,jh n]) else [aB ky,jh n]
theorem Nw {k n:Int} (hk:k=6\/k=7) (hn:dV n=true):kN L (λ i=>gn L E i) (B2 k n) (node k [] n 0 a []):=by
 intro i hi;refine⟨node k [] n 0 (dv L E i) [],fl rfl,?_⟩;show gn L E i=_;unfold B2 at hi ⊢;rcases hk with rfl|rfl
 . rw[if_pos rfl]at hi ⊢
   by_cases h1:n=1
   . subst h1;rw[if_pos rfl]at hi ⊢;unfold gn;rw[if_pos (fQ hi)]; rfl
   . rw[if_neg h1]at hi ⊢
     by_cases h2:n=2
     . subst h2;rw[if_pos rfl]at hi ⊢;have hw:∀ v,bm L i v=(((aB lP).1==3||(aB lP).1==4)&&(aB lP).2==v):=λ v=>ey hi;have c1:bm L i pX=false:=hw _;unfold gn;rw[if_neg (by simp[c1]),if_pos (fQ hi)]; rfl
     . rw[if_neg h2]at hi ⊢;have hw:∀ v,bm L i v=(((aB gY).1==3||(aB gY).1==4)&&(aB gY).2==v):=λ v=>ey hi;have c1:bm L i pX=false:=hw _;have c2:bm L i lP=false:=hw _;have c3:bm L i ky=false:=hw _;unfold gn;rw[if_neg (by simp[c1]),if_neg (by simp[c2]),if_neg (by simp[c3]),dx hi,aX,rH hn hi.tail,aX]; rfl
 . rw[if_neg (by decide)]at hi ⊢;have hw:∀ v,bm L i v=(((aB ky).1==3||(aB ky).1==4)&&(aB ky).2==v):=λ v=>ey hi;have c1:bm L i pX=false:=hw _;have c2:bm L i lP=false:=hw _;unfold gn;rw[if_neg (by simp[c1]),if_neg (by simp[c2]),if_pos (fQ hi),rH hn hi.tail,aX]; rfl
theorem S7 {k n:Int} {f:Nat} (hk:k=6\/k=7) (hn:dV n=true):kN L (λ i=>jI L E f i) (B2 k n) (node k [] n 0 a []):=by
 intro i hi;obtain⟨ns,h1,h2⟩:=Nw (E:=E) (a:=a) hk hn i hi;have h2:gn L E i=_:=h2;refine⟨ns,h1,?_⟩;show jI L E f i=_;have hc:bm L i bK=false:=by
  unfold B2 at hi;rcases hk with rfl|rfl
  . rw[if_pos rfl]at hi;split at hi
    . rw[ey hi]; rfl
    . split at hi
      . rw[ey hi]; rfl
      . rw[ey hi]; rfl
  . rw[if_neg (by decide)]at hi;rw[ey hi]; rfl
 unfold jI;rw[if_neg (by simp[hc])];exact h2
theorem Qj {p:Pt} {P:List Pt} {f:Nat} (hf:L.length<f) (hP:∀ q∈p::P,kN L (λ i=>gn L E i) q.1 q.2) (g:kN L (λ i=>gn L E i) l T):kN L (λ i=>jI L E f i) (aB bK::(dh cH ((p::P).map Prod.fst)++aB bJ::aB fY::l)) (node 8 [] 0 0 a (Pt.all (p::P)++T)):=by
 intro i hi;obtain⟨n0,b0,p0,q0⟩:=Bv (f:=f) hP hi.tail (by omega);obtain⟨n1,b1,p1⟩:=g _ q0.tail.tail;have p1:gn L E _=.ok n1 _:=p1;refine⟨node 8 [] 0 0 (dv L E i) (n0++n1),fl (iq b0 b1),?_⟩;show jI L E f i=_;unfold jI;rw[if_pos (fQ hi)];have p0:jW L (gn L E) f (i+1)=_:=p0;rw[p0,aX,dx q0,aX,dx q0.tail,aX,p1,aX];exact Ih (by simp; omega)
theorem XY {x:aG} {f:Nat} (g:kN L (λ i=>jI L E f i) l T):kN L (λ i=>j0 L E f i) (eK x::aB dk::l) (node 5 x 0 0 a T):=by
 intro i hi;obtain⟨n1,b1,p1⟩:=g _ hi.tail.tail;have p1:jI L E f _=.ok n1 _:=p1;refine⟨node 5 x 0 0 (dv L E i) n1,fl b1,?_⟩;show j0 L E f i=_;unfold j0;rw[lJ hi,aX,dx hi.tail,aX,p1,aX];exact Ih (by simp; omega)
theorem aa6 {x:aG}:kN L (λ i=>lS L E i) [eK x] (node 37 x 0 0 a []):=by
 intro i hi;refine⟨node 37 x 0 0 (dv L E i) [],fl rfl,?_⟩;show lS L E i=_;unfold lS;rw[lJ hi,aX]; rfl
theorem adW {p:Pt} {P:List Pt} (hP:∀ q∈p::P,kN L (λ i=>lS L E i) q.1 q.2) (g:er L E l T):yI L E (aB rO::aB bK::(dh cH ((p::P).map Prod.fst)++aB bJ::l)) (node 35 [] 0 0 a (Pt.all (p::P)++T)):=by
 intro i hi hf f mc;have:=hi.lt;have:=hi.tail.lt;obtain⟨f,rfl⟩:∃ g,f=g+1:=⟨f-1,by omega⟩;obtain⟨n0,b0,p0,q0⟩:=Bv (f:=L.length+1) hP hi.tail.tail (by omega);have:=q0.lt;have hj:i+(aB rO::aB bK::(dh cH ((p::P).map Prod.fst)++aB bJ::l)).length=i+1+1+(dh cH ((p::P).map Prod.fst)).length+1+l.length:=by simp; omega
 rw[hj]at hf ⊢;obtain⟨n1,b1,p1⟩:=g _ q0.tail hf.1 f (by omega);have p1:bF L E f _=.ok n1 _:=p1;have p0:jW L (lS L E) (L.length+1) (i+1+1)=_:=p0;refine⟨node 35 [] 0 0 (dv L E i) (n0++n1),fl (iq b0 b1),?_⟩;show js L E (f+1) i=_;rw[js,if_pos (fQ hi),dx hi.tail,aX,p0,aX,dx q0,aX,p1,aX]
theorem Pj (g0:er L E l0 T0) (g1:kN L (λ i=>lS L E i) l1 T1) (g2:er L E l2 T2):yI L E (aB gQ::aB va::(l0++aB cC::aB vb::(l1++aB uc::(l2++[aB jJ])))) (node 36 [] 0 0 a (T0++T1++T2)):=by
 intro i hi hf f mc;have:=hi.lt;have:=hi.tail.lt;obtain⟨f,rfl⟩:∃ g,f=g+1:=⟨f-1,by omega⟩;obtain⟨n0,b0,p0,q0⟩:=g0.go hi.tail.tail (w:=cC) (f:=f) (by decide) (by omega);have:=q0.lt;have:=q0.tail.lt;have h1:=q0.tail.tail;obtain⟨n1,b1,p1⟩:=g1 _ h1.app.1;have p1:lS L E _=.ok n1 _:=p1;have h2:=h1.app.2;have:=h2.lt;obtain⟨n2,b2,p2,q2⟩:=g2.go h2.tail (w:=jJ) (f:=f) (by decide) (by omega);have hw:∀ v,bm L i v=(((aB gQ).1==3||(aB gQ).1==4)&&(aB gQ).2==v):=λ v=>ey hi;have c1:bm L i rO=false:=hw _;refine⟨node 36 [] 0 0 (dv L E i) (n0++n1++n2),fl (iq (iq b0 b1) b2),?_⟩;show js L E (f+1) i=_;rw[js,if_neg (by simp[c1]),if_pos (fQ hi),dx hi.tail,aX,p0,aX,dx q0,aX,dx q0.tail,aX,p1,aX,dx h2,aX,p2,aX,dx q2,aX];exact Ih (by simp; omega)
def Jz (L:List Tk) (E:Nat) (l:List Tx) (T:List Nd):Prop:=∀ i,At L i l->(i+l.length=L.length\/uF L (i+l.length)=true)->∀ f,40*(L.length-i)+11<=f->L.length<f->∃ ns,bz ns=bz T/\mN L E f i=.ok ns (i+l.length)
theorem MZ {x:aG} (g:∀ f,L.length<f->kN L (λ i=>jI L E f i) l T):Jz L E (aB dY::eK x::aB dk::(l++[aB cC])) (node 2 x 0 0 a T):=by
 intro i hi eJ f hf ly;have h1:=hi.tail.tail.tail;obtain⟨n1,b1,p1⟩:=g f ly _ h1.app.1;have p1:jI L E f _=.ok n1 _:=p1;refine⟨node 2 x 0 0 (dv L E i) n1,fl b1,?_⟩;unfold mN;rw[if_pos (fQ hi),lJ hi.tail,aX,dx hi.tail.tail,aX,p1,aX,dx h1.app.2,aX];exact Ih (by simp; omega)
theorem XD {k:Int} {x:aG} {ps:List Pt} (hk:k=3\/k=4) (hP:∀ f,L.length<f->∀ q∈ps,kN L (λ i=>j0 L E f i) q.1 q.2/\∃ c r,q.1=eK c::r) (g1:kN L (λ i=>gn L E i) l1 T1) (g2:Ap L E l2 T2) :
 Jz L E (aB (if k=3 then gg else dQ)::eK x::aB bK::(dh cH (ps.map Prod.fst)++aB bJ::aB dk::(l1++aB gP::(l2++[aB cC])))) (node k x 0 0 a (Pt.all ps++T1++T2)):=by
 intro i hi eJ f hf ly;have:=hi.lt;have h1:=hi.tail;have h2:=h1.tail;have h3:=h2.tail;have uP:∃ n0,bz n0=bz (Pt.all ps)/\(if bm L (i+1+1+1) bJ=true then .ok [] (i+1+1+1) else jW L (j0 L E f) f (i+1+1+1))=(.ok n0 (i+1+1+1+(dh cH (ps.map Prod.fst)).length):PR (List Nd)):=by
  cases ps with
  | nil =>
    have h3:At L (i+1+1+1) (aB bJ::_):=h3;exact⟨[],rfl,by rw[if_pos (fQ h3)]; rfl⟩
  | cons p ps =>
    obtain⟨n0,b0,p0,q0⟩:=Bv (f:=f) (λ q hq=>(hP f ly q hq).1) h3 (by omega);obtain⟨c,r',hc⟩:=(hP f ly p (by simp)).2;have h3:=h3.app.1;rw[Pt.Fw,hc]at h3;have h3:At L (i+1+1+1) (eK c::_):=h3;exact⟨n0,b0,by rw[if_neg (by simp[Jm h3])]; exact p0⟩
 obtain⟨n0,b0,p0⟩:=uP;have h4:=h3.app.2;have:=h4.lt;have h5:=h4.tail;have h6:=h5.tail;obtain⟨n1,b1,p1⟩:=g1 _ h6.app.1;have p1:gn L E _=.ok n1 _:=p1;have h7:=h6.app.2;have:=h7.lt;have h8:=h7.tail;have h9:=h8.app.2;have hj:i+(aB (if k=3 then gg else dQ)::eK x::aB bK::(dh cH (ps.map Prod.fst)++aB bJ::aB dk::(l1++aB gP::(l2++[aB cC])))).length=i+1+1+1+(dh cH (ps.map Prod.fst)).length+1+1+l1.length+1+l2.length+1:=by simp; omega
 rw[hj]at eJ ⊢;obtain⟨n2,b2,p2⟩:=g2 _ h8.app.1 ⟨xT (w:=cC) (by decide) h9,λ h=>by
  rcases eJ with e|e
  . omega
  . rw[e]at h; cases h.2.2⟩ f (by omega)
 have p2:ig L E f _=.ok n2 _:=p2;refine⟨node k x 0 0 (dv L E i) (n0++n1++n2),fl (iq (iq b0 b1) b2),?_⟩;have ZB:∃ kk,kk=k/\(if bm L i gg=true then .ok 3 (i+1) else (bM L dQ i).bind λ _ j=>.ok 4 j:PR Int)=.ok kk (i+1)/\bm L i dY=false:=by
  rcases hk with rfl|rfl
  . have hi:At L i (aB gg::_):=hi;exact⟨3,rfl,by rw[if_pos (fQ hi)],by rw[ey hi]; rfl⟩
  . have hi:At L i (aB dQ::_):=hi;have c1:bm L i gg=false:=by rw[ey hi]; rfl
    exact⟨4,rfl,by rw[if_neg (by simp[c1]),dx hi,aX],by rw[ey hi]; rfl⟩
 obtain⟨kk,rfl,rX,gD⟩:=ZB;unfold mN;rw[if_neg (by simp[gD]),rX,aX,lJ h1,aX,dx h2,aX,p0,aX,dx h4,aX,dx h5,aX,p1,aX,dx h7,aX,p2,aX,dx h9,aX]
end
end Go.Rip
