import Derived.Test.YtnfpmiiopiinbaaGreatDoorI
set_option linter.all false
namespace Go.Rip
open Go.RowKit
section
variable {U aa aK aV:St}{b b' r:Nat}{x y:Live}{l l' L:List AV}
def eM:(U.set b x).live b'=if b'=b then some x else U.live b':=rfl
def oK:(U.new b x).live b'=if b'=b then some x else U.live b':=rfl
def jv:(U.del b).live b'=if b'=b then none else U.live b':=rfl
def aZ:(U.set b (.box l)).box b=some l:=by simp[St.box,eM]
def aH:(U.new b (.box l)).box b=some l:=by simp[St.box,oK]
def bf(h:b'≠b):(U.set b x).box b'=U.box b':=by simp[St.box,eM,h]
def pF(h:b'≠b):(U.new b x).box b'=U.box b':=by simp[St.box,oK,h]
def jF(h:b'≠b):(U.del b).box b'=U.box b':=by simp[St.box,jv,h]
def Cc{t:Tok}:(U.new b (.tok t)).tok b=some t:=by simp[St.tok,oK]
def jk(h:b'≠b):(U.set b x).tok b'=U.tok b':=by simp[St.tok,eM,h]
def cN(h:U.box b=some l):U.live b≠none:=by
 intro e;simp[St.box,e]at h
def Ky{t:Tok}(h:U.tok b=some t):U.live b≠none:=by
 intro e;simp[St.tok,e]at h
def fY{t:Tok}(h:U.box b=some l)(k:U.tok b'=some t):b≠b':=by
 rintro rfl;unfold St.box at h;unfold St.tok at k;split at k
 . rename_i e;simp[e]at h
 . cases k
def St.eO.cA(h:U.eO b)(k:U.box b'=some l):b'≠b:=by
 rintro rfl;exact cN k h.1
def eE(h:aa.live b=U.live b):aa.box b=U.box b:=by simp[St.box,h]
def nA(h:aa.live b=U.live b):aa.tok b=U.tok b:=by simp[St.tok,h]
def jT(r:Nat)(U aa:St):Prop:=∀b x,b≠r->U.live b=some x->aa.live b=some x
def dt(U aa:St):Prop:=∀b x,U.live b=some x->aa.live b=some x
def dt.refl(U:St):dt U U:=λ_ _ h=>h
def dt.trans(h:dt U aK)(k:dt aK aV):dt U aV:=λb x e=>k b x (h b x e)
def jT.refl(r:Nat)(U:St):jT r U U:=λ_ _ _ h=>h
def jT.trans(h:jT r U aK)(k:jT r aK aV):jT r U aV:=λb x n e=>k b x n (h b x n e)
def dt.vZ(h:dt U aa):jT r U aa:=λb x _ e=>h b x e
def jT.bq(h:jT r U aa)(n:b≠r)(k:U.box b=some l):aa.box b=some l:=by
 cases e:U.live b with
 | none=>simp[St.box,e]at k
 | some x=>rw[eE ((h b x n e).trans e.symm)];exact k
def jT.tok(h:jT r U aa){t:Tok}(n:b≠r)(k:U.tok b=some t):aa.tok b=some t:=by
 cases e:U.live b with
 | none=>simp[St.tok,e]at k
 | some x=>rw[nA ((h b x n e).trans e.symm)];exact k
def dt.bq(h:dt U aa)(k:U.box b=some l):aa.box b=some l:=by
 cases e:U.live b with
 | none=>simp[St.box,e]at k
 | some x=>rw[eE ((h b x e).trans e.symm)];exact k
def dt.tok(h:dt U aa){t:Tok}(k:U.tok b=some t):aa.tok b=some t:=by
 cases e:U.live b with
 | none=>simp[St.tok,e]at k
 | some x=>rw[nA ((h b x e).trans e.symm)];exact k
def bK(h:U.eO b):dt U (U.new b x):=λc y e=>by
 rw[oK];split
 . rename_i n;subst n;rw[h.1]at e;cases e
 . exact e
def jT.set(h:jT r U aa)(n:U.live b=none\/b=r):jT r U (aa.set b x):=λc y m e=>by
 rw[eM];split
 . rename_i k;subst k;rcases n with n|n
   . rw[n]at e;cases e
   . exact absurd n m
 . exact h c y m e
def dt.set(h:dt U aa)(n:U.live b=none):dt U (aa.set b x):=λc y e=>by
 rw[eM];split
 . rename_i k;subst k;rw[n]at e;cases e
 . exact h c y e
def jT.del(h:jT r U aa)(n:U.live b=none\/b=r):jT r U (aa.del b):=λc y m e=>by
 rw[jv];split
 . rename_i k;subst k;rcases n with n|n
   . rw[n]at e;cases e
   . exact absurd n m
 . exact h c y m e
def dt.del(h:dt U aa)(n:U.live b=none):dt U (aa.del b):=λc y e=>by
 rw[jv];split
 . rename_i k;subst k;rw[n]at e;cases e
 . exact h c y e
def jT.new(h:jT r U aa)(n:aa.eO b):jT r U (aa.new b x):=h.trans (bK n).vZ
def dt.new(h:dt U aa)(n:aa.eO b):dt U (aa.new b x):=h.trans (bK n)
def dt.fresh(h:dt U aa)(n:aa.live b=none):U.live b=none:=by
 cases e:U.live b with
 | none=>rfl
 | some x=>rw[h b x e]at n;cases n
def jT.fresh(h:jT r U aa)(m:b≠r)(n:aa.live b=none):U.live b=none:=by
 cases e:U.live b with
 | none=>rfl
 | some x=>rw[h b x m e]at n;cases n
structure gK (r:Nat) (l:List AV) (U aa:St):Prop where
 box:aa.box r=some l
 ex:jT r U aa
def gK.trans(h:gK r l U aK)(k:gK r l' aK aV):gK r l' U aV:=⟨k.box,h.ex.trans k.ex⟩
def gK.mV(h:U.box r=some l)(k:dt U aa):gK r l U aa:=⟨k.bq h,k.vZ⟩
end
section
variable {U:St}{b o n:Nat}{L:List AV}{v:AV}
def ld(h:U.box b=some L)(n o:Nat):bj (some (false,n)) (.box b o) U=kn (L.drop o):=yh h n o
def UH(h:U.box b=some L)(n o:Nat):bj (some (true,n)) (.box b o) U=.cond (n<=(L.drop o).length) (.val (.agg ((L.drop o).take n))):=UP h n o
def D1(h:U.box b=some L)(t:Bool)(n o:Nat)(v:AV):dD (some (t,n)) (.box b o) v U=.cond (v.dC/\(al v).length=n/\o+n<=L.length) (.kg (.az []) b (.box (ax L o (al v)))):=pD h t n o v
end
variable {vt:Option (Bool×Nat)}
@[simp] theorem R1{p v:AV}{U:St}{k:AV->Prop}(h:bj vt p U=.val v):fV vt p U k=k v:=by simp[fV,h]
def zK{p v:AV}{U:St}{k:AV->Prop}{q:Prop}[Decidable q](h:bj vt p U=.cond q (.val v)):fV vt p U k=(q/\k v):=by simp[fV,h]
variable {bt:BT}{j:Int}{i:IntKind}{ps:List (Nat×AV)}{pl:Nat->Option (Nat×Nat)}{at_:Option (Nat×TypeId×Nat)}
section
variable {C:dQ}{U τ:St}{K:am}{Kp:am}{k:AV->Prop}{b o n sz e:Nat}{t:Bool}{L:List AV}{v:AV}
def cV(h:U.box b=some L):(dD (some (t,n)) (.box b o) v U).wp C U K Kp=((v.dC/\(al v).length=n/\o+n<=L.length)/\K (.az []) (U.set b (.box (ax L o (al v))))):=by
 rw[D1 h];rfl
def gJ(h:U.box b=some L):(bj (some (false,n)) (.box b o) U).wp C τ K Kp=(kn (L.drop o)).wp C τ K Kp:=by rw[ld h]
def nM(h:U.box b=some L):bC C (bj (some (false,n)) (.box b o) U) k=bC C (kn (L.drop o)) k:=by rw[ld h]
def mK(h:U.box b=some L):(bj (some (true,n)) (.box b o) U).wp C τ K Kp=(n<=(L.drop o).length/\K (.agg ((L.drop o).take n)) τ):=by rw[UH h];rfl
def B0(h:U.box b=some L):bC C (bj (some (true,n)) (.box b o) U) k=(n<=(L.drop o).length/\k (.agg ((L.drop o).take n))):=by rw[UH h];rfl
def rP(h:U.box b=some L):fV (some (true,n)) (.box b o) U k=(n<=(L.drop o).length/\k (.agg ((L.drop o).take n))):=by rw[zK (UH h n o)]
def B2{x:AV}{l:List AV}(h:U.box b=some L)(hd:L.drop o=x::l):fV (some (false,n)) (.box b o) U k=k x:=by
 rw[R1];rw[ld h,hd];rfl
def bI{x:AV}{l:List AV}:(kn (x::l)).wp C U K Kp=K x U:=rfl
def gg{x:AV}{l:List AV}:bC C (kn (x::l)) k=k x:=rfl
def ln:(bj (some (false,n)) (.dJ L) U).wp C τ K Kp=(kn L).wp C τ K Kp:=rfl
def oA:bC C (bj (some (false,n)) (.dJ L) U) k=bC C (kn L) k:=rfl
def tP:(bj (some (true,n)) (.dJ L) U).wp C τ K Kp=(n<=L.length/\K (.agg (L.take n)) τ):=rfl
def IF:bC C (bj (some (true,n)) (.dJ L) U) k=(n<=L.length/\k (.agg (L.take n))):=rfl
def cF{l:Bool}{x y:Int}:(bU .add bt l (bv x) (bv y)).wp C U K Kp=(xG (x+y)/\K (bv (x+y)) U):=by simp only[oI,il];rfl
def BZ{l:Bool}{x y:Int}:bC C (bU .add bt l (bv x) (bv y)) k=(xG (x+y)/\k (bv (x+y))):=by simp only[oI,il];rfl
def s0{l:Bool}{x y:Int}:(bU .sub bt l (bv x) (bv y)).wp C U K Kp=(xG (x-y)/\K (bv (x-y)) U):=by simp only[jA,il];rfl
def La{l:Bool}{x y:Int}:bC C (bU .sub bt l (bv x) (bv y)) k=(xG (x-y)/\k (bv (x-y))):=by simp only[jA,il];rfl
def SU{l:Bool}{x y:Int}:(bU .mul bt l (bv x) (bv y)).wp C U K Kp=(xG (x*y)/\K (bv (x*y)) U):=by simp only[Oi,il];rfl
def mI{l:Bool}{x y:List UInt8}:(bU .add bt l (.str x) (.str y)).wp C U K Kp=(x.length+y.length<=4294967296/\K (.str (x++y)) U):=rfl
def sU{l:Bool}{x y:List UInt8}:bC C (bU .add bt l (.str x) (.str y)) k=(x.length+y.length<=4294967296/\k (.str (x++y))):=rfl
def sv{c:nj}:(bJ (some (e,sz)) at_ (.vec n c L) (.int i j)).wp C U K Kp=((0<=j/\j<n)/\K (.dJ (L.drop (j.toNat*sz))) U):=rfl
def Nk{c:nj}:bC C (bJ (some (e,sz)) at_ (.vec n c L) (.int i j)) k=((0<=j/\j<n)/\k (.dJ (L.drop (j.toNat*sz)))):=rfl
def xr{z u:Nat}:(bJ (some (e,sz)) at_ (.ms b o n z u) (.int i j)).wp C U K Kp=((0<=j/\j<n/\z=sz)/\K (.box b (o+j.toNat*sz)) U):=rfl
def K9{z u:Nat}:bC C (bJ (some (e,sz)) at_ (.ms b o n z u) (.int i j)) k=((0<=j/\j<n/\z=sz)/\k (.box b (o+j.toNat*sz))):=rfl
def sZ{s:List UInt8}:(fL true at_ vt (.str s) (.int i j)).wp C U K Kp=((0<=j/\j<s.length)/\K (co (s.getD j.toNat 0).toNat) U):=by rw[JJ];rfl
def vN{s:List UInt8}:bC C (fL true at_ vt (.str s) (.int i j)) k=((0<=j/\j<s.length)/\k (co (s.getD j.toNat 0).toNat)):=by rw[JJ];rfl
def fg(h:v.dC):(CR v).wp C U K Kp=∀b,U.eO b->K (.box b 0) (U.new b (.box (al v))):=by
 rw[Ja _ h];simp only[wp_cond,true_and];rfl
def dh:(aW.mU L).wp C U K Kp=∀b,U.eO b->K (.box b 0) (U.new b (.box L)):=rfl
def fN{z:List AV}:(ai (some (e,sz)) (some z) n false ps).wp C U K Kp=(n*sz<=16777216/\(ja (λi=>some (i*sz,sz)) ps (bZ n z) λcs=>.cond (cs.length=n*sz) (.val (.vec n .full cs))).wp C U K Kp):=by
 simp only[ai,bW,if_false];rfl
def th{z:List AV}:bC C (ai (some (e,sz)) (some z) n false ps) k=(n*sz<=16777216/\bC C (ja (λi=>some (i*sz,sz)) ps (bZ n z) λcs=>.cond (cs.length=n*sz) (.val (.vec n .full cs))) k):=by
 simp only[ai,bW,if_false];rfl
def eg{i s:Nat}{x:AV}{rest:List (Nat×AV)}{f:List AV->aW}(h:pl i=some (o,s)):(ja pl ((i,x)::rest) L f).wp C U K Kp=((x.dC/\(al x).length=s/\o+s<=L.length)/\(ja pl rest (ax L o (al x)) f).wp C U K Kp):=by
 simp only[ja,h];rfl
def pk{i s:Nat}{x:AV}{rest:List (Nat×AV)}{f:List AV->aW}(h:pl i=some (o,s)):bC C (ja pl ((i,x)::rest) L f) k=((x.dC/\(al x).length=s/\o+s<=L.length)/\bC C (ja pl rest (ax L o (al x)) f) k):=by
 simp only[ja,h];rfl
def afM:(ja pl [] L λz=>.val (.agg z)).wp C U K Kp=K (.agg L) U:=rfl
def gS{m:Nat}:(ja pl [] L λcs=>.cond (cs.length=m) (.val (.vec n .full cs))).wp C U K Kp=(L.length=m/\K (.vec n .full L) U):=rfl
def va{m:Nat}:bC C (ja pl [] L λcs=>.cond (cs.length=m) (.val (.vec n .full cs))) k=(L.length=m/\k (.vec n .full L)):=rfl
def ta:List (Nat×Nat)->List (Nat×AV)->List AV->Option (List AV)
 | _,[],z=>some z
 | pl,(i,x)::rest,z=>match pl[i]? with
   | some (o,s)=>if x.dC=true/\(al x).length=s/\o+s<=z.length then ta pl rest (ax z o (al x)) else none
   | none=>none
def I9:∀{pl:List (Nat×Nat)}{ps:List (Nat×AV)}{z zs:List AV},ta pl ps z=some zs->K (.agg zs) U->(ja (λi=>pl[i]?) ps z λz=>.val (.agg z)).wp C U K Kp
 | pl,[],z,zs,h,hk=>by cases h;exact hk
 | pl,(i,x)::rest,z,zs,h,hk=>by
   simp only[ta]at h;split at h
   . rename_i o s e;split at h
     . rename_i hc;rw[eg e];exact⟨hc,I9 h hk⟩
     . cases h
   . cases h
def Gv:∀{pl:List (Nat×Nat)}{ps:List (Nat×AV)}{z zs:List AV},ta pl ps z=some zs->k (.agg zs)->bC C (ja (λi=>pl[i]?) ps z λz=>.val (.agg z)) k
 | pl,[],z,zs,h,hk=>by cases h;exact hk
 | pl,(i,x)::rest,z,zs,h,hk=>by
   simp only[ta]at h;split at h
   . rename_i o s e;split at h
     . rename_i hc;rw[pk e];exact⟨hc,Gv h hk⟩
     . cases h
   . cases h
def jC{pl:List (Nat×Nat)}(zs:List AV)(h:ta pl ps L=some zs)(hk:K (.agg zs) U):(cx (some pl) (some L) at_ ps).wp C U K Kp:=I9 h hk
def Q4{pl:List (Nat×Nat)}(zs:List AV)(h:ta pl ps L=some zs)(hk:k (.agg zs)):bC C (cx (some pl) (some L) at_ ps) k:=Gv h hk
end
def jD(t:Tk):List AV:=[co t.k,.str t.s,bv t.at_]
def gu(L:List Tk):List AV:=L.flatMap jD
def dz(v:AV)(n:Nat)(cs:List AV):Prop:=(n=0/\cs=[]/\v=.af)\/∃c,v=.vec n c cs
def Kw(L:List Tk)(i:Nat):(gu L).drop (i*3)=gu (L.drop i):=by
 induction L generalizing i with
 | nil=>simp[gu]
 | cons t L ih =>
   cases i with
   | zero=>simp
   | succ i =>
     rw[Nat.add_mul,show i*3+1*3=3+i*3 by omega,<-List.drop_drop,List.drop_succ_cons,<-ih];rfl
def vo{L:List Tk}{i:Nat}{t:Tk}(h:L[i]?=some t):∃r,(gu L).drop (i*3)=jD t++r:=by
 rw[Kw,gI (dw.1 h).1];refine⟨gu (L.drop (i+1)),?_⟩;have:=(dw.1 h).2;simp[gu,this]
end Go.Rip
