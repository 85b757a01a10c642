/- Lemmas for the proof: no conditions. -/
import Derived.Test.YtnfpmiiopiinbaaGreatDoorRipZz
import Derived.Test.YtnfpmiiopiinbaaGreatDoorRipB
set_option linter.unusedVariables false
set_option linter.unusedSimpArgs false
set_option linter.loopingSimpArgs false
namespace Go.Rip
open Go.RowKit
mutual
def flat:AV->Bool
 | .bool _|.int _ _|.str _|.aU|.ag|.ji|.c6|.cS=>true
 | .iface _ v=>flat v
 | .agg l=>zU l
 | .aQ l=>zU l
 | _=>false
def zU:List AV->Bool
 | []=>true
 | x::xs=>flat x&&zU xs
end
mutual
theorem av.flat {g g':Gh}:∀ (x:AV) (v:Value),flat x=true->av g x v->av g' x v
 | .bool _,_,_,hr=>hr
 | .int _ _,_,_,hr=>hr
 | .str _,_,_,hr=>hr
 | .aU,_,_,hr=>hr
 | .ag,_,_,hr=>hr
 | .ji,_,_,hr=>hr
 | .c6,_,_,hr=>hr
 | .cS,_,_,hr=>hr
 | .iface t x,v,h,hr=>by
   simp only[Rip.flat]at h;simp only[av]at hr ⊢;obtain⟨u,h1,h2⟩:=hr;exact⟨u,h1,av.flat x u h h2⟩
 | .agg l,v,h,hr=>by
   simp only[Rip.flat]at h;simp only[av]at hr ⊢;obtain⟨vs,h1,h2,h3⟩:=hr;exact⟨vs,h1,h2,aC.flat l _ h h3⟩
 | .aQ l,v,h,hr=>by
   simp only[Rip.flat]at h;simp only[av]at hr ⊢;obtain⟨vs,h1,h3⟩:=hr;exact⟨vs,h1,aC.flat l _ h h3⟩
theorem aC.flat {g g':Gh}:∀ (l:List AV) (vs:List Value),zU l=true->aC g l vs->aC g' l vs
 | [],vs,_,h=>by cases vs<;>simp_all [aC]
 | x::xs,vs,h,hr=>by
   simp only[zU,bV]at h;simp only[aC]at hr ⊢;obtain⟨v,vs',h1,h2,h3⟩:=hr;exact⟨v,vs',h1,av.flat x v h.1 h2,aC.flat xs vs' h.2 h3⟩
end
theorem ae.Ib {C:ck} {f:Nat} {args args0:List AV} {U:St} {R:cM->St->Prop} {x:AV} (d:Nat) (Aa:∀ i,closed (C.wh i)=true)
 (hw:∀ g vs,aC g (args.map (resolve d U)) vs->aC g args0 vs) (hargs:bG args0=true) (hx:flat x=true) (h:Pure C f args0 x) (hR:R (.ret x) U):ae C f args U R:=by
 intro g w vs hs hG ha;have Hu:=hs.Al;let g0:Gh:={ base:=w.heap.size,w0:=w,place:=λ _=>none,bT:=(g.all w).bT,bL:=(g.all w).bL,res:=λ _=>false };have rj:aY g0 (bK ⟨.e,0⟩) w:={
  below:=Below.refl _ _
  le:=cN _
  bT:=λ q o u hu=>uh hs q o u hu
  bL:=λ q es c hu=>sH hs q es c hu
  live:=λ b x hb=>by cases hb
  apart:=λ b b' x x' p p' hb=>by cases hb
  res:=λ r hr=>by cases hr
  fin:=⟨0,λ n hn=>by cases hn; rfl,λ _ _=>rfl⟩ }
 have KN:fQ C g0:=⟨λ i=>av.closed (g:=g) (g':=g0) (λ _ _ _ h=>Hu.bT _ _ _ h) (λ _ _ h=>Hu.bL _ _ h) _ _ (Aa i) (hG.1 i),λ i cs hi=>by
  obtain⟨k1,t,fr,k2⟩:=hG.2 i cs hi;refine⟨Nat.lt_of_lt_of_le k1 hs.le,t,fr,?_⟩;show w.heap[i]?=_;rw[hs.below.block i k1]; exact k2⟩
 have Vs:aC g0 args0 vs:=aC.closed (g:=g.all w) (g':=g0) (λ _ _ _ h=>h) (λ _ _ h=>h) _ _ hargs (hw _ _ (zo (λ x v _ hr=>yL hs d x v hr) ha));refine (h (bK ⟨.e,0⟩) (λ r _=>r=.ret x) rfl g0 w vs rj KN Vs).mono ?_;rintro e w' hp;cases e with
 | panicked ch=>obtain⟨g',ad,y,v,_,_,_,_,hz⟩:=hp; cases hz
 | outgrown=>exact hp.elim
 | returned v =>
   obtain⟨g',ad,y,h1,h2,h3,hz⟩:=hp;cases hz;have ra:=h2.Al;have hle:=h1.trans ra;have uw:Below w.heap.size w w':=by
    have:=h2.below;rw[h1.base,h1.w0]at this;exact this
   let gF:Gh:={ base:=g.base,w0:=g.w0,place:=g.place,bT:=g.bT,bL:=g.bL,res:=g.res };have Eu:Gh.Le g gF:=⟨rfl,rfl,λ _ _ h=>h,λ b o u hu=>hu,λ b u hu=>hu,λ _ h=>h,λ _ _ _=>rfl,λ _ _=>rfl⟩;refine⟨gF,U,x,Eu,?_,av.flat x v hx h3,hR⟩;exact {
    below:=hs.below.trans (uw.mono hs.le)
    le:=Nat.le_trans hs.le uw.size
    bT:=λ q o u hu=>uh h2 q o u (hle.bT _ _ _ (Hu.bT _ _ _ hu))
    bL:=λ q es c hu=>sH h2 q es c (hle.bL _ _ (Hu.bL _ _ hu))
    live:=λ b l hb=>by
     obtain⟨p,k1,k2,k3⟩:=hs.live b l hb;have aL:=k3.lt;exact⟨p,k1,k2,k3.frame Eu.r (uw.block _ aL) (λ o=>rfl) rfl⟩
    apart:=hs.apart
    res:=λ r hr=>by
     obtain⟨k1,k2⟩:=hs.res r hr;exact⟨k1,by rw[uw.block _ (jl.1 k2).1]; exact k2⟩
    fin:=hs.fin }
inductive Wk:List AV->List AV->Prop
 | nil:Wk [] []
 | bf (x:AV) {l l':List AV}:Wk l l'->Wk (x::l) (x::l')
 | drop (x:AV) {l l':List AV}:Wk l l'->Wk (.any::l) (x::l')
theorem Wk.rep {g:Gh} {l l':List AV} (h:Wk l l'):∀ {vs:List Value},aC g l' vs->aC g l vs:=by
 induction h with
 | nil=>exact λ h=>h
 | bf x _ ih =>
   intro vs h;simp only[aC]at h ⊢;obtain⟨u,us,h1,h2,h3⟩:=h;exact⟨u,us,h1,h2,ih h3⟩
 | drop x _ ih =>
   intro vs h;simp only[aC]at h ⊢;obtain⟨u,us,h1,h2,h3⟩:=h;exact⟨u,us,h1,by simp only[av],ih h3⟩
theorem Wk.ca {g:Gh} {l l' r:List AV} {vs:List Value} (h:Wk l l') (hr:aC g (.ca l'::r) vs):aC g (.ca l::r) vs:=by
 simp only[aC,av]at hr ⊢;obtain⟨u,us,h1,⟨aE,off,ws,h2,h3,h4⟩,h5⟩:=hr;exact⟨u,us,h1,⟨aE,off,ws,h2,h3,h.rep h4⟩,h5⟩
theorem Wk.any:∀ (l:List AV),Wk (l.map λ _=>.any) l
 | []=>.nil
 | x::l=>.drop x (Wk.any l)
end Go.Rip
namespace Go.Rip
open Go.RowKit
def ar (vt:Option (Bool×Nat)) (p:AV) (U:St):ay :=
 match vt,km U p with
 | some (true,sz),some l=>.cond (sz<=l.length) (.val (.agg (l.take sz)))
 | some (false,_),some l=>fV l
 | _,_=>.bad
def aG (vt:Option (Bool×Nat)) (p v:AV) (U:St):ay :=
 match vt,p with
 | some (_,sz),.box b off=>match U.box b with
   | some l=>.cond (v.cA=true/\(au v).length=sz/\off+sz<=l.length) (.kI (.aQ []) b (.box (ax l off (au v))))
   | none=>.bad
 | _,_=>.bad
def TU (t:TypeId) (z:Option (List AV)):ay :=
 match z with
 | some l=>DQ t l
 | none=>.bad
def cX (st:Option (List (Nat×Nat))) (z:Option (List AV)) (at_:Option (Nat×TypeId×Nat)) (parts:List (Nat×AV)):ay :=
 match st,z with
 | some pl,some z=>eS (λ i=>pl[i]?) parts z λ z=>.val (.agg z)
 | none,some z=>match at_ with
   | some (_,_,sz)=>eS (λ i=>some (i*sz,sz)) parts z λ z=>.val (.agg z)
   | none=>.bad
 | _,_=>.bad
def aF (sl:Option (TypeId×Nat)) (z:Option (List AV)) (n:Nat) (mu:Bool) (parts:List (Nat×AV)):ay :=
 match sl with
 | some (e,sz)=>match z with
   | some z=>.cond (n*sz<=16777216) (eS (λ i=>some (i*sz,sz)) parts (bN n z) λ cs=>.cond (cs.length=n*sz) (if mu then .mJ n sz e none cs else .val (.vec n .full cs)))
   | none=>.bad
 | none=>.bad
def iH (mt:Option (FK×TypeId)) (m k v:AV) (U:St):ay :=
 match mt,m with
 | some (fk,_),.mp id=>match U.mp id with
   | some (ks,vs)=>match j0 fk k ks 0,oI fk k with
     | some none,true=>.kI (.aQ []) id (.mp (fp k v ks vs).1 (fp k v ks vs).2)
     | some (some i),true=>.kI (.aQ []) id (.mp ks (vs.set i v))
     | _,_=>.bad
   | none=>.bad
 | _,_=>.bad
def fB (mt:Option (FK×TypeId)) (z:Option AV) (m k:AV) (ok:Bool) (U:St):ay :=
 match mt,kS U m with
 | some (fk,e),some (ks,vs)=>match z,oI fk k with
   | some z,true=>kX fk k z ok ks vs
   | _,_=>.bad
 | _,_=>.bad
def Dm (it:Option IntKind) (is:Bool) (ss bs:Bool) (x:AV):ay :=
 match it,is,x with
 | some .i64,true,.int _ n=>.cond (tf n) (.val (.int .i64 n))
 | some k,true,.int _ n=>.val (.int k (k.wrap n))
 | none,true,.str s=>if ss=true then .val (.str s) else
   if bs=true then .cond (s.length<=4294967296) (.val (.vec s.length .eR (s.map λ b=>.int .u8 b.toNat))) else .bad
 | _,_,_=>.bad
def gp (st:Bool) (sl:Option (TypeId×Nat)) (x:AV) (lo hi:Option AV):ay :=
 match x with
 | .str s=>match st,dh 0 lo,dh s.length hi with
   | true,some l,some h=>.cond (0<=l/\l<=h/\h<=s.length) (.val (.str ((s.take h.toNat).drop l.toNat)))
   | _,_,_=>.bad
 | .vec n cap l=>match sl,dh 0 lo,dh n hi with
   | some (_,sz),some a,some b=>.cond (0<=a/\a<=b/\b<=n) (.val (.vec (b.toNat-a.toNat) (uk cap hi) ((l.take (b.toNat*sz)).drop (a.toNat*sz))))
   | _,_,_=>.bad
 | .ag=>match sl,dh 0 lo,dh 0 hi with
   | some (_,_),some a,some b=>.cond (a=0/\b=0) (.val .ag)
   | _,_,_=>.bad
 | .ms b off n gy e=>match sl,dh 0 lo,dh n hi with
   | some (_,sz),some a,some h=>.cond (0<=a/\a<=h/\h<=n/\(a<n\/a=0)/\gy=sz) (.val (.ms b (off+a.toNat*sz) (h.toNat-a.toNat) gy e))
   | _,_,_=>.bad
 | _=>.bad
def ah (ft:Option Nat) (p:AV):ay :=
 match ft,p with
 | some o,.box b off=>.val (.box b (off+o))
 | some o,.ca l=>.val (.ca (l.drop o))
 | _,_=>.bad
def rW (fv:Option (Nat×Bool×Nat)) (x:AV):ay :=
 match fv,x with
 | some (o,true,n),.agg l=>.cond (o+n<=l.length) (.val (.agg ((l.drop o).take n)))
 | some (o,false,_),.agg l=>fV (l.drop o)
 | _,_=>.bad
def UZ (at_:Option (Nat×TypeId×Nat)) (x i:AV):ay :=
 match at_,x,i with
 | some (n,_,sz),.ca l,.int _ j=>.cond (0<=j/\j<n) (.val (.ca (l.drop (j.toNat*sz))))
 | some (n,_,sz),.box b off,.int _ j=>.cond (0<=j/\j<n) (.val (.box b (off+j.toNat*sz)))
 | _,_,_=>.bad
def aJ (sl:Option (TypeId×Nat)) (at_:Option (Nat×TypeId×Nat)) (x i:AV):ay :=
 match sl,x,i with
 | none,x,i=>UZ at_ x i
 | some (_,sz),.vec n _ l,.int _ j=>.cond (0<=j/\j<n) (.val (.ca (l.drop (j.toNat*sz))))
 | some (_,sz),.ms b off n gy _,.int _ j=>.cond (0<=j/\j<n/\gy=sz) (.val (.box b (off+j.toNat*sz)))
 | _,_,_=>.bad
def gk (st:Bool) (at_:Option (Nat×TypeId×Nat)) (vt:Option (Bool×Nat)) (x i:AV):ay :=
 match x,i with
 | .str s,.int _ j=>if st=true then .cond (0<=j/\j<s.length) (.val (.int .u8 (s.getD j.toNat 0).toNat)) else .bad
 | .agg l,.int _ j=>match at_ with
   | some (n,e,sz)=>match vt with
     | some (false,_)=>.cond (0<=j/\j<n) (fV (l.drop (j.toNat*sz)))
     | some (true,k)=>.cond (0<=j/\j<n/\k=sz/\j.toNat*sz+sz<=l.length) (.val (.agg ((l.drop (j.toNat*sz)).take sz)))
     | none=>.bad
   | none=>.bad
 | _,_=>.bad
def uM (b:Bool) (t:TypeId) (x:AV):ay:=if b=true then .val (.iface t x) else .bad
def xh (mt:Option (FK×TypeId)) (m:AV):ay :=
 match mt,m with
 | some _,.eD ks vs=>.new .it none (.iter (ks.zip vs) none)
 | _,_=>.bad
def s9 (z:Option AV) (x:AV) (t:TypeId) (ok:Bool):ay :=
 match z,x with
 | some z,.iface u v=>if u=t then .val (if ok then .aQ [v,.bool true] else v) else if ok then .val (.aQ [z,.bool false]) else .bad
 | some z,.cS=>if ok then .val (.aQ [z,.bool false]) else .bad
 | _,_=>.bad
def As (sl:Option (TypeId×Nat)) (z:Option (List AV)) (mu:Bool) (l c:AV):ay :=
 match sl,l,c with
 | some (e,sz),.int _ l,.int _ c=>match z with
   | some z=>.cond (0<=l/\l=c/\c<=65536) (if mu then .mJ l.toNat sz e none (bN l.toNat z) else .lr l.toNat (bN l.toNat z) none ⟨l.toNat,e,sz⟩)
   | none=>.bad
 | _,_,_=>.bad
def zM (sl:Option (TypeId×Nat)) (z:Option (List AV)) (x:AV) (U:St):ay :=
 match sl,x with
 | some (e,sz),.ms b off n gy _=>match U.box b,z with
   | some l,some z=>.cond (gy=sz/\off+n*sz<=l.length) (.kI (.aQ []) b (.box (ax l off (bN n z))))
   | _,_=>.bad
 | _,_=>.bad
def bR (lt:Option Bool) (x:AV):ay :=
 match lt,x with
 | some true,.str s=>.val (.int .i64 s.length)
 | some false,.vec n _ _=>.val (.int .i64 n)
 | some false,.ms _ _ n _ _=>.val (.int .i64 n)
 | some false,.ag=>.val (.int .i64 0)
 | _,_=>.bad
def ek (ap:Option (TypeId×Nat)) (mu:Bool) (s y:AV) (U:St):ay :=
 match ap,qo U y with
 | some (e,sz),some (m,l2) =>
   .cond (l2.length=m*sz) (match s with
   | .ag=>if m=0 then .val .ag else .cond (m<=4294967296) (if mu then .mJ m sz e none l2 else .lr m l2 none ⟨m,e,sz⟩)
   | .vec n .full l=>if m=0 then .val s else .cond (l.length=n*sz/\n+m<=4294967296) (.lr (n+m) (l++l2) none ⟨n+m,e,sz⟩)
   | .vec n (.own τ) l=>.cond (U.tok τ=some ⟨n,e,sz⟩/\l.length=n*sz/\n+m<=4294967296) (.lr (n+m) (l++l2) (some τ) ⟨n+m,e,sz⟩)
   | .ms b off n gy e'=>match U.box b with
     | some l=>.cond (off=0/\gy=sz/\e'=e/\n*sz<=l.length/\n+m<=4294967296) (.mJ (n+m) sz e (some b) (l.take (n*sz)++l2))
     | none=>.bad
   | _=>.bad)
 | _,_=>.bad
structure BT where
 b:Bool
 i:Bool
 p:Bool
 f:Option (List FK)
 s:Bool
def U4 (P:Program) (t:TypeId):BT:=⟨tH P t,jf P t,kx P t,IN P t,nR P t⟩
def Q1 (f:Option (List FK)) (a b:List AV):Option Bool :=
 match f with
 | some ks=>mU ks a b
 | none=>none
def aw (op:BinOp) (bt:BT) (lit:Bool) (x y:AV):ay :=
 match op,x,y with
 | .eql,.cS,.cS=>if bt.i=true/\lit=true then .val (.bool true) else .bad
 | .neq,.cS,.cS=>if bt.i=true/\lit=true then .val (.bool false) else .bad
 | .add,.int k a,.int k' b=>if k=k' then gh k (a+b) else .bad
 | .sub,.int k a,.int k' b=>if k=k' then gh k (a-b) else .bad
 | .mul,.int k a,.int k' b=>if k=k' then gh k (a*b) else .bad
 | .quo,.int k a,.int k' b=>if k=k' then .cond (b≠0) (gh k (a.tdiv b)) else .bad
 | .rem,.int k a,.int k' b=>if k=k' then .cond (b≠0) (.val (.int k (a.tmod b))) else .bad
 | .and,.int k a,.int k' b=>if k=k' then .val (.int k (k.wrap (BitVec.ofInt k.bits a &&& BitVec.ofInt k.bits b).toNat)) else .bad
 | .or,.int k a,.int k' b=>if k=k' then .val (.int k (k.wrap (BitVec.ofInt k.bits a ||| BitVec.ofInt k.bits b).toNat)) else .bad
 | .eql,.int k a,.int k' b=>if k=k' then .val (.bool (a==b)) else .bad
 | .neq,.int k a,.int k' b=>if k=k' then .val (.bool (a != b)) else .bad
 | .lss,.int k a,.int k' b=>if k=k' then .val (.bool (decide (a<b))) else .bad
 | .leq,.int k a,.int k' b=>if k=k' then .val (.bool (decide (a<=b))) else .bad
 | .gtr,.int k a,.int k' b=>if k=k' then .val (.bool (decide (a > b))) else .bad
 | .geq,.int k a,.int k' b=>if k=k' then .val (.bool (decide (a>=b))) else .bad
 | .eql,.str a,.str b=>.val (.bool (a==b))
 | .neq,.str a,.str b=>.val (.bool (a != b))
 | .add,.str a,.str b=>.cond (a.length+b.length<=4294967296) (.val (.str (a++b)))
 | .eql,.bool a,.bool b=>if bt.b=true then .val (.bool (a==b)) else .bad
 | .neq,.bool a,.bool b=>if bt.b=true then .val (.bool (a != b)) else .bad
 | .eql,.agg a,.agg b=>tb .bool (Q1 bt.f a b)
 | .neq,.agg a,.agg b=>tb (λ r=>.bool (!r)) (Q1 bt.f a b)
 | .eql,.iface _ _,.cS=>if bt.i=true then .val (.bool false) else .bad
 | .neq,.iface _ _,.cS=>if bt.i=true then .val (.bool true) else .bad
 | .eql,.aU,.aU=>if bt.p=true then .val (.bool true) else .bad
 | .eql,.box _ _,.aU=>if bt.p=true then .val (.bool false) else .bad
 | .neq,.aU,.aU=>if bt.p=true then .val (.bool false) else .bad
 | .neq,.box _ _,.aU=>if bt.p=true then .val (.bool true) else .bad
 | .eql,.ca _,.aU=>if bt.p=true then .val (.bool false) else .bad
 | .neq,.ca _,.aU=>if bt.p=true then .val (.bool true) else .bad
 | .eql,.ag,.ag=>if bt.s=true then .val (.bool true) else .bad
 | .eql,.vec _ _ _,.ag=>if bt.s=true then .val (.bool false) else .bad
 | .eql,.ms _ _ _ _ _,.ag=>if bt.s=true then .val (.bool false) else .bad
 | _,_,_=>.bad
theorem SK (P:Program) (op:BinOp) (t:TypeId) (lit:Bool) (x y:AV):aw op (U4 P t) lit x y=DU P op t lit x y:=by
 unfold aw DU It;cases op<;>cases x<;>cases y<;>rfl
def ud (P:Program) (t:TypeId):Option (List AV):=match dP P t with
 | some (e,_)=>nN P e
 | none=>none
def QY (P:Program) (t:TypeId):Option (Bool×Nat):=match sI P t with
 | some (_,e,_)=>lR P e
 | none=>none
def OG (P:Program) (t:TypeId):Option AV:=match oK P t with
 | some (_,e)=>zeroV P e
 | none=>none
def OM (gt:Option (TypeId×Nat×List AV)) (ap:Option (TypeId×Nat)) (mu:Bool) (s y:AV) (U:St):ay :=
 match gt with
 | some q=>Dr q mu s y
 | none=>ek ap mu s y U
def Iw (C:ck) (mu:Bool) (c:Call) (ρ:Env) (U:St):ay :=
 match c.callee,c.argTypes.toList,c.args.toList with
 | .value (.func f),_,args=>if dG C.P f=true then .enter f (args.map (ρ.ev C)) else .bad
 | .value f,_,args=>gi C.P (ρ.ev C f) (args.map (ρ.ev C))
 | .builtin .len,[t],[x]=>bR (Ju C.P t) (ρ.ev C x)
 | .builtin .append,[t,u],[s,y]=>OM (zW C.P t u) (Ir C.P t u) mu (ρ.ev C s) (ρ.ev C y) U
 | .builtin .cap,[t],[x]=>DZ (dP C.P t) (ρ.ev C x)
 | .builtin .min,_,[x,y]=>wK (ρ.ev C x) (ρ.ev C y)
 | .builtin .max,_,[x,y]=>wJ (ρ.ev C x) (ρ.ev C y)
 | .builtin .clear,[t],[x]=>zM (dP C.P t) (ud C.P t) (ρ.ev C x) U
 | _,_,_=>.bad
def qv (C:ck) (mu:Bool) (o:Op) (ρ:Env) (U:St):ay :=
 match o with
 | .move x|.assign x=>.val (ρ.ev C x)
 | .pick c a b=>bu (ρ.ev C c) (ρ.ev C a) (ρ.ev C b)
 | .alloc t=>TU t (nN C.P t)
 | .box _ x=>fM (ρ.ev C x)
 | .build t parts=>cX (x5 C.P t) (nN C.P t) (sI C.P t) (kn C ρ parts)
 | .buildSlice t n parts=>aF (dP C.P t) (ud C.P t) n mu (kn C ρ parts)
 | .insert t m k v|.mapUpdate t m k v=>iH (oK C.P t) (ρ.ev C m) (ρ.ev C k) (ρ.ev C v) U
 | .load t a=>ar (lR C.P t) (ρ.ev C a) U
 | .store t a v=>aG (lR C.P t) (ρ.ev C a) (ρ.ev C v) U
 | .nilCheck x=>aS (ρ.ev C x)
 | .binOp op t x y _=>aw op (U4 C.P t) (isLit x||isLit y) (ρ.ev C x) (ρ.ev C y)
 | .unOp op _ x=>ig op (ρ.ev C x)
 | .convert s d x=>Dm (Jl C.P d) (C.P.underlying s).isSome (ln C.P d&&ln C.P s) (uF C.P d&&ln C.P s) (ρ.ev C x)
 | .makeInterface t x=>uM (wQ C.P t) t (ρ.ev C x)
 | .makeFunc fn first cap=>.val (.func fn (first.toList.map (ρ.ev C)) (cap.toList.map (ρ.ev C)))
 | .makeMap _ none=>.Dy
 | .slice t x lo hi none=>gp (ln C.P t) (dP C.P t) (ρ.ev C x) (lo.map (ρ.ev C)) (hi.map (ρ.ev C))
 | .fieldAddr s x f=>ah (wc C.P s f) (ρ.ev C x)
 | .field s x f=>rW (xN C.P s f) (ρ.ev C x)
 | .indexAddr t x i=>aJ (dP C.P t) (sI C.P t) (ρ.ev C x) (ρ.ev C i)
 | .index t x i=>gk (ln C.P t) (sI C.P t) (QY C.P t) (ρ.ev C x) (ρ.ev C i)
 | .lookup t m k ok=>fB (oK C.P t) (OG C.P t) (ρ.ev C m) (ρ.ev C k) ok U
 | .extract t i=>aK (ρ.ev C t) i
 | .panic x=>rB (ρ.ev C x)
 | .range t m=>xh (oK C.P t) (ρ.ev C m)
 | .typeAssert x _ t ok=>s9 (xG C.P t) (ρ.ev C x) t ok
 | .makeSlice t l c=>As (dP C.P t) (ud C.P t) mu (ρ.ev C l) (ρ.ev C c)
 | .next i false=>qE (ρ.ev C i) U
 | .entry i=>ny (ρ.ev C i) U
 | .call c=>Iw C mu c ρ U
 | _=>.bad
theorem OQ (C:ck) (mu:Bool) (c:Call) (ρ:Env) (U:St):Iw C mu c ρ U=xK C mu c ρ U:=by
 unfold Iw xK;obtain⟨callee,⟨args⟩,⟨Ss⟩⟩:=c;cases callee with
 | value f =>
   cases f<;>simp only[gi,Env.ev,iK,jn]
 | invoke r m=>rfl
 | builtin b =>
   cases b
   case clear =>
    dsimp only;rcases Ss with _|⟨t,_|⟨u,_|_⟩⟩<;>rcases args with _|⟨x,_|⟨y,_|_⟩⟩<;>try rfl
    simp only[zM,vX,ud];generalize ρ.ev C x=y;cases h:dP C.P t with
    | none=>rfl
    | some es=>(cases es; cases y<;>rfl)
   all_goals first|rfl|(dsimp only; rcases Ss with _|⟨t,_|⟨u,_|_⟩⟩<;>rcases args with _|⟨x,_|⟨y,_|_⟩⟩<;>rfl)
theorem nI (C:ck) (mu:Bool) (o:Op) (ρ:Env) (U:St):qv C mu o ρ U=gV C mu o ρ U:=by
 cases o with
 | binOp op t x y yt=>exact SK _ _ _ _ _ _
 | call c=>exact OQ _ _ _ _ _
 | buildSlice t n parts =>
   simp only[qv,gV,aF,pC,ud];cases h:dP C.P t with
   | none=>rfl
   | some es=>(cases es; rfl)
 | index t x i =>
   simp only[qv,gV,gk,Ah,QY];generalize ρ.ev C x=y;generalize ρ.ev C i=z;cases h:sI C.P t with
   | none=>cases y<;>rfl
   | some es=>(cases es; cases y<;>cases z<;>rfl)
 | lookup t m k ok =>
   simp only[qv,gV,fB,tJ,OG];generalize kS U (ρ.ev C m)=y;cases h:oK C.P t with
   | none=>rfl
   | some es=>(cases es; cases y<;>rfl)
 | makeSlice t l c =>
   simp only[qv,gV,As,qD,ud];generalize ρ.ev C l=y;generalize ρ.ev C c=z;cases h:dP C.P t with
   | none=>rfl
   | some es=>(cases es; cases y<;>cases z<;>rfl)
 | convert s d x =>
   simp only[qv,gV,Dm,Dl,bV];rfl
 | makeMap t r=>cases r<;>rfl
 | slice t x lo hi m=>cases m<;>rfl
 | next i b=>cases b<;>rfl
 | _=>rfl
end Go.Rip
namespace Go.Rip
open Go.RowKit
def Fn:Nat->Type
 | 0=>St->Prop
 | n+1=>AV->Fn n
namespace Fn
def app:(n:Nat)->Fn n->List AV->St->Prop
 | 0,f,_,U=>f U
 | n+1,f,x::xs,U=>app n (f x) xs U
 | n+1,f,[],U=>app n (f .any) [] U
def lam:(n:Nat)->(List AV->St->Prop)->Fn n
 | 0,F=>λ U=>F [] U
 | n+1,F=>λ x=>lam n (λ xs U=>F (x::xs) U)
theorem nY:∀ (n:Nat) (F:List AV->St->Prop) (xs:List AV) (U:St),xs.length=n->app n (lam n F) xs U=F xs U
 | 0,F,[],U,_=>rfl
 | n+1,F,x::xs,U,h=>nY n (λ xs U=>F (x::xs) U) xs U (by simpa using h)
 | 0,F,_::_,U,h=>by simp at h
 | n+1,F,[],U,h=>by simp at h
def imp:(n:Nat)->Fn n->Fn n->Prop
 | 0,f,g=>∀ U,f U->g U
 | n+1,f,g=>∀ x,imp n (f x) (g x)
theorem HH:∀ {n:Nat} {f g:Fn n},imp n f g->∀ (xs:List AV) (U:St),xs.length=n->app n f xs U->app n g xs U
 | 0,f,g,h,xs,U,_,hf=>h U hf
 | n+1,f,g,h,x::xs,U,hl,hf=>HH (h x) xs U (by simpa using hl) hf
 | n+1,f,g,h,[],U,hl,hf=>by simp at hl
theorem G0:∀ {n:Nat} {f g:Fn n},(∀ (xs:List AV) (U:St),xs.length=n->app n f xs U->app n g xs U)->imp n f g
 | 0,f,g,h=>λ U hf=>h [] U rfl hf
 | n+1,f,g,h=>λ x=>G0 λ xs U hl hf=>h (x::xs) U (by simpa using hl) hf
end Fn
def Ap:List Nat->List AV->Nat->AV
 | s::ss,x::xs,t=>cond (Nat.beq t s) x (Ap ss xs t)
 | _,_,_=>.any
def Bm (live:List Nat) (vs:List AV):Env:=⟨Ap live vs⟩
theorem CH (f:Nat->AV) (t:Nat):∀ live:List Nat,Ap live (live.map f) t=f t\/Ap live (live.map f) t=.any
 | []=>.inr rfl
 | s::ss=>by
   simp only[dY,Ap];cases h:Nat.beq t s with
   | true=>have:=dF h; subst this; exact .inl rfl
   | false=>exact CH f t ss
theorem Ca (ρ:Env) (live:List Nat) (t:Nat):(Bm live (live.map ρ.get)).get t=ρ.get t\/(Bm live (live.map ρ.get)).get t=.any:=CH ρ.get t live
section
variable {C:ck} {nt:Nat} {ro:Ro} {U:St} {ρ:Env}
theorem bo.Il {c:Code} {Q:Ex->Env->St->Prop} {de:Env} (h:bo C nt ro c Q de U) (hw:∀ t,de.get t=ρ.get t\/de.get t=.any):bo C nt ro c Q ρ U :=
 λ g w a fr h1 h2 h3 h4 h5=>h g w a fr h1 h2 (λ t=>by
  rcases hw t with e|e
  . rw[e]; exact h3 t
  . rw[e]; simp only[av]) h4 h5
end
structure Qx where
 n:Env->St->Prop
 e:Nat->Env->St->Prop
 r:Env->St->Prop
 p:AV->St->Prop
def Qx.q (Q:Qx):Ex->Env->St->Prop
 | .normal,ρ,U=>Q.n ρ U
 | .exit i,ρ,U=>Q.e i ρ U
 | .ret,ρ,U=>Q.r ρ U
 | .panic x,_,U=>Q.p x U
def YF (ops:Array Oper) (j:Nat):Option Nat:=(ops[j]?).bind (·.dst)
def aB (v:AV) (want:Bool):AV:=match v with
 | .bool b=>.bool (b==want)
 | .aQ []=>.bool false
 | _=>.any
def Ee (ops:Array Oper) (ρ:Env) (jw:Nat×Bool):AV:=match YF ops jw.1 with
 | some d=>aB (ρ.get d) jw.2
 | none=>.any
theorem Ef (ops:Array Oper) (ρ:Env) (jw:Nat×Bool):fI ops ρ (some jw)=Ee ops ρ jw:=rfl
def BR (b:Bool) (v:AV):AV:=match b with
 | true=>v
 | false=>.aQ []
def dD (C:ck) (b:Bool):ay->(AV->Prop)->Prop
 | .val v,k=>k (BR b v)
 | @ay.cond p _ r,k=>(b=true->p)/\dD C b r k
 | .enter f args,k=>∃ v,(b=true->Pure C f args v)/\k (BR b v)
 | _,k=>b=false/\k (.aQ [])
def af (C:ck) (gv:AV) (r:ay) (k:AV->Prop):Prop:=match gv with
 | .bool b=>dD C b r k
 | _=>False
theorem yK {C:ck}:∀ (r:ay) {k:AV->Prop},dD C true r k->∃ v,r.yv C v/\k v
 | .val v,k,h=>⟨v,rfl,h⟩
 | @ay.cond _ _ r,k,h=>let ⟨v,h1,h2⟩:=yK r h.2; ⟨v,⟨h.1 rfl,h1⟩,h2⟩
 | .enter _ _,k,h=>let ⟨v,h1,h2⟩:=h; ⟨v,h1 rfl,h2⟩
 | .kI _ _ _,_,h=>by cases h.1
 | .new _ _ _,_,h=>by cases h.1
 | .jF _ _,_,h=>by cases h.1
 | .yield _ _,_,h=>by cases h.1
 | .panic _,_,h=>by cases h.1
 | .bad,_,h=>by cases h.1
theorem wZ {C:ck}:∀ (r:ay) {k:AV->Prop},dD C false r k->k (.aQ [])
 | .val v,k,h=>h
 | @ay.cond _ _ r,k,h=>wZ r h.2
 | .enter _ _,k,h=>let ⟨v,h1,h2⟩:=h; h2
 | .kI _ _ _,_,h=>h.2
 | .new _ _ _,_,h=>h.2
 | .jF _ _,_,h=>h.2
 | .yield _ _,_,h=>h.2
 | .panic _,_,h=>h.2
 | .bad,_,h=>h.2
theorem xd {C:ck} {gv:AV} {r:ay} {k:AV->Prop} (h:af C gv r k):(gv=.bool true/\∃ v,r.yv C v/\k v)\/(gv=.bool false/\k (.aQ [])):=by
 cases gv<;>simp only[af]at h
 rename_i b;cases b
 . exact .inr ⟨rfl,wZ r h⟩
 . exact .inl ⟨rfl,yK r h⟩
def WW (pf:List Nat) (o:Op):Bool:=match o with
 | .call c=>match c.callee with
   | .value (.func f)=>pf.any λ g=>Nat.beq g f
   | .value _=>false
   | _=>quiet o
 | o=>quiet o
def Bw (C:ck) (o:Op) (ρ:Env):Option AV:=match o with
 | .move x|.assign x=>some (ρ.ev C x)
 | .makeFunc fn first cap=>some (.func fn (first.toList.map (ρ.ev C)) (cap.toList.map (ρ.ev C)))
 | _=>none
theorem xP {C:ck} {o:Op} {ρ:Env} {v:AV} (h:Bw C o ρ=some v) (mu:Bool) (U:St):qv C mu o ρ U=.val v:=by
 unfold Bw at h;split at h
 . cases h; rfl
 . cases h; rfl
 . cases h; rfl
 . cases h
def sT (C:ck) (mu pf:List Nat) (ops:Array Oper):List Oper->Env->St->(Env->St->Prop)->(AV->St->Prop)->Prop
 | [],ρ,U,K,_=>K ρ U
 | o::rest,ρ,U,K,Kp=>match o.guard with
   | none=>match Bw C o.op ρ with
     | some v=>sT C mu pf ops rest (ρ.dw o.dst v) U K Kp
     | none=>(qv C (lL mu o) o.op ρ U).wp C U (λ v U=>sT C mu pf ops rest (ρ.dw o.dst v) U K Kp) Kp
   | some jw=>match WW pf o.op with
     | true=>af C (Ee ops ρ jw) (qv C (lL mu o) o.op ρ U) (λ v=>sT C mu pf ops rest (ρ.dw o.dst v) U K Kp)
     | false=>aA (Ee ops ρ jw) ((qv C (lL mu o) o.op ρ U).wp C U (λ v U=>sT C mu pf ops rest (ρ.dw o.dst v) U K Kp) Kp)
       (sT C mu pf ops rest (ρ.dw o.dst (.aQ [])) U K Kp)
theorem tO {C:ck} {mu pf:List Nat} {ops:Array Oper} {K:Env->St->Prop} {Kp:AV->St->Prop}:∀ (l:List Oper) (ρ:Env) (U:St),
 sT C mu pf ops l ρ U K Kp->nj C mu ops l ρ U K Kp
 | [],_,_,h=>h
 | o::rest,ρ,U,h=>by
   have step:∀ {r:ay},r.wp C U (λ v U=>sT C mu pf ops rest (ρ.dw o.dst v) U K Kp) Kp ->
    r.wp C U (λ v ad=>nj C mu ops rest (ρ.dw o.dst v) ad K Kp) Kp:=λ hr=>ay.wp_mono (λ v ad hv=>tO rest _ _ hv) _ hr
   simp only[sT]at h;simp only[nj];show aA (fI ops ρ o.guard) ((gV C (lL mu o) o.op ρ U).wp C U (λ v ad=>nj C mu ops rest (ρ.dw o.dst v) ad K Kp) Kp) (nj C mu ops rest (ρ.dw o.dst (.aQ [])) U K Kp);rw[<- nI];cases hg:o.guard with
   | none =>
     rw[hg]at h;simp only at h;refine⟨λ _=>?_,λ hf=>(by cases hf)⟩;split at h
     . rename_i v hv;rw[xP hv];exact tO rest _ _ h
     . exact step h
   | some jw =>
     rw[hg]at h;simp only at h;rw[Ef];split at h
     . rcases xd h with ⟨hb,v,hv,hk⟩|⟨hb,hk⟩
       . rw[hb];refine⟨λ _=>?_,λ hf=>(by cases hf)⟩;exact ay.Kf _ hv (tO rest _ _ hk)
       . rw[hb];exact⟨λ hf=>(by cases hf),λ _=>tO rest _ _ hk⟩
     . cases hv:Ee ops ρ jw<;>rw[hv]at h<;>simp only[aA]at h ⊢
       exact⟨λ e=>step (h.1 e),λ e=>tO rest _ _ (h.2 e)⟩
def ao (C:ck):ay->(AV->Prop)->Prop
 | .val v,k=>k v
 | @ay.cond p _ r,k=>p/\ao C r k
 | .enter f args,k=>∃ v,Pure C f args v/\k v
 | _,_=>False
theorem CR {C:ck}:∀ (r:ay) {k:AV->Prop},ao C r k->∃ v,r.yv C v/\k v
 | .val v,k,h=>⟨v,rfl,h⟩
 | @ay.cond _ _ r,k,h=>let ⟨v,h1,h2⟩:=CR r h.2; ⟨v,⟨h.1,h1⟩,h2⟩
 | .enter _ _,k,h=>h
 | .kI _ _ _,_,h=>h.elim
 | .new _ _ _,_,h=>h.elim
 | .jF _ _,_,h=>h.elim
 | .yield _ _,_,h=>h.elim
 | .panic _,_,h=>h.elim
 | .bad,_,h=>h.elim
def z7 (C:ck) (ρ:Env) (o:Op):List Nat:=o.operands.toList.flatMap λ x=>dH (ρ.ev C x)
def WZ (b:Bool) (P k:Prop):Prop:=match b with
 | true=>P/\k
 | false=>k
def Ww (b:Bool) (P k:Prop):Prop:=match b with
 | true=>k
 | false=>P/\k
theorem Lv {ops:Array Oper} {i:Nat} {I:St->Prop} {U:St} {k:Prop} (h:Ww (pO ops i) (I U) k):Ix ops I i U/\k:=by
 unfold Ix;cases ha:pO ops i<;>rw[ha]at h<;>simp only[Ww]at h
 . exact⟨.inr h.1,h.2⟩
 . exact⟨.inl (by unfold lV; rw[ha]; rfl),h⟩
def xe (C:ck) (ops:Array Oper) (ρ:Env) (g:Option (Nat×Bool)) (i:Option AV) (r:ay) (k:AV->Prop):Prop:=match g with
 | none=>match i with
   | some v=>k v
   | none=>ao C r k
 | some jw=>af C (Ee ops ρ jw) r k
def gW (ops:Array Oper) (ρ:Env) (g:Option (Nat×Bool)) (A B:Prop):Prop:=match g with
 | none=>A
 | some jw=>aA (Ee ops ρ jw) A B
def mL (C:ck) (mu:List Nat) (ops:Array Oper) (az:St) (K:Env->St->Prop) (Kp:AV->St->Prop) (B:List Nat):List (Bool×Nat)->Env->St->Prop
 | [],ρ,U=>K ρ U
 | (true,i)::r,ρ,U=>match ops[i]? with
   | none=>False
   | some o=>match quiet o.op with
     | false=>False
     | true=>WZ (mO o.op) (∀ b∈z7 C ρ o.op,b∈B) (xe C ops ρ o.guard (Bw C o.op ρ) (qv C (lL mu o) o.op ρ az) λ v=>mL C mu ops az K Kp B r (ρ.dw o.dst v) U)
 | (false,i)::r,ρ,U=>match ops[i]? with
   | none=>False
   | some o=>gW ops ρ o.guard ((qv C (lL mu o) o.op ρ U).wp C U (λ v U=>Ww (pO ops i) (cE B az U) (mL C mu ops az K Kp B r (ρ.dw o.dst v) U)) Kp)
      (mL C mu ops az K Kp B r (ρ.dw o.dst (.aQ [])) U)
def DA (C:ck) (mu:List Nat) (ops:Array Oper) (az:St) (K:Env->St->Prop) (Kp:AV->St->Prop):List (Bool×Nat)->List Nat->Env->St->Prop
 | [],_,ρ,U=>K ρ U
 | (true,i)::r,B,ρ,U=>match ops[i]? with
   | none=>False
   | some o=>match quiet o.op with
     | false=>False
     | true=>xe C ops ρ o.guard (Bw C o.op ρ) (qv C (lL mu o) o.op ρ az) λ v=>DA C mu ops az K Kp r (match mO o.op with|true=>z7 C ρ o.op++B|false=>B) (ρ.dw o.dst v) U
 | (false,i)::r,B,ρ,U=>mL C mu ops az K Kp B ((false,i)::r) ρ U
def uS (C:ck) (mu:List Nat) (ops:Array Oper) (az:St) (K:Env->St->Prop) (Kp:AV->St->Prop):List (Bool×Nat)->Env->St->Prop
 | [],ρ,U=>K ρ U
 | (true,i)::r,ρ,U=>match ops[i]? with
   | none=>False
   | some o=>match quiet o.op with
     | false=>False
     | true=>xe C ops ρ o.guard (Bw C o.op ρ) (qv C (lL mu o) o.op ρ az) λ v=>uS C mu ops az K Kp r (ρ.dw o.dst v) U
 | (false,i)::r,ρ,U=>match lV ops i,ops[i]? with
   | true,some o=>gW ops ρ o.guard ((qv C (lL mu o) o.op ρ U).wp C U (λ v U=>uS C mu ops az K Kp r (ρ.dw o.dst v) U) Kp) (uS C mu ops az K Kp r (ρ.dw o.dst (.aQ [])) U)
   | _,_=>False
section
variable {C:ck} {mu:List Nat} {ops:Array Oper} {az:St} {K:Env->St->Prop} {Kp:AV->St->Prop}
theorem y4 {ρ:Env} {g:Option (Nat×Bool)} {A B:Prop} (h:gW ops ρ g A B):(fI ops ρ g=.bool true/\A)\/(fI ops ρ g=.bool false/\B):=by
 unfold gW at h;cases g with
 | none=>exact .inl ⟨rfl,h⟩
 | some jw =>
   simp only at h;rw[Ef];cases hv:Ee ops ρ jw<;>rw[hv]at h<;>simp only[aA]at h
   rename_i b;cases b
   . exact .inr ⟨rfl,h.2 rfl⟩
   . exact .inl ⟨rfl,h.1 rfl⟩
theorem rD {ρ:Env} {g:Option (Nat×Bool)} {i:Option AV} {r:ay} {k:AV->Prop} (hi:∀ v,i=some v->r=.val v) (h:xe C ops ρ g i r k):(fI ops ρ g=.bool true/\∃ v,r.yv C v/\k v)\/(fI ops ρ g=.bool false/\k (.aQ [])):=by
 unfold xe at h;cases g with
 | none =>
   cases i with
   | none=>exact .inl ⟨rfl,CR r h⟩
   | some v=>rw[hi v rfl]; exact .inl ⟨rfl,v,rfl,h⟩
 | some jw=>simp only at h; rw[Ef]; exact xd h
theorem ux {ρ:Env} {o:Op} {x:Operand} (hx:x∈o.operands.toList) {b:Nat} (hb:b∈dH (ρ.ev C x)):b∈z7 C ρ o:=List.mem_flatMap.2 ⟨x,hx,hb⟩
theorem ou (B:List Nat):∀ (l:List (Bool×Nat)) (ρ:Env) (U:St),mL C mu ops az K Kp B l ρ U->jH C mu ops B az K Kp l ρ U
 | [],_,_,h=>h
 | (true,i)::r,ρ,U,h=>by
   simp only[mL]at h;split at h
   . exact h.elim
   . rename_i o ho;split at h
     . exact h.elim
     . rename_i hq;have key:∀ {P k:Prop},WZ (mO o.op) P k->(mO o.op=true->P)/\k:=λ {P k} h=>by
        cases hr:mO o.op<;>rw[hr]at h<;>simp only[WZ]at h
        . exact⟨λ h=>(by cases h),h⟩
        . exact⟨λ _=>h.1,h.2⟩
       obtain⟨hB,h⟩:=key h;rcases rD (λ v hv=>xP hv _ _) h with ⟨hg,v,hv,hk⟩|⟨hg,hk⟩
       . rw[nI]at hv;exact⟨o,v,ho,.inl ⟨hg,hq,λ hr x hx b hb=>hB hr b (ux hx hb),hv⟩,ou B r _ _ hk⟩
       . exact⟨o,.aQ [],ho,.inr ⟨hg,rfl⟩,ou B r _ _ hk⟩
 | (false,i)::r,ρ,U,h=>by
   simp only[mL]at h;simp only[jH,jv];split at h
   . exact h.elim
   . rename_i o ho;rw[ho];simp only;rw[nI]at h;rcases y4 h with ⟨hg,h⟩|⟨hg,h⟩
     . rw[hg];exact⟨λ _=>ay.wp_mono (λ v U hv=>⟨(Lv (I:=cE B az) hv).1,ou B r _ _ (Lv (I:=cE B az) hv).2⟩) _ h,λ h=>by cases h⟩
     . rw[hg];exact⟨λ h=>(by cases h),λ _=>ou B r _ _ h⟩
theorem BH:∀ (l:List (Bool×Nat)) (B:List Nat) (ρ:Env) (U:St),DA C mu ops az K Kp l B ρ U->∃ B',(∀ b∈B,b∈B')/\jH C mu ops B' az K Kp l ρ U
 | [],B,_,_,h=>⟨B,λ _ h=>h,h⟩
 | (true,i)::r,B,ρ,U,h=>by
   simp only[DA]at h;split at h
   . exact h.elim
   . rename_i o ho;split at h
     . exact h.elim
     . rename_i hq;rcases rD (λ v hv=>xP hv _ _) h with ⟨hg,v,hv,hk⟩|⟨hg,hk⟩
       . rw[nI]at hv;obtain⟨B',hB,hA⟩:=BH r _ _ _ hk;refine⟨B',λ b hb=>hB b ?_,o,v,ho,.inl ⟨hg,hq,λ hr x hx b hb=>hB b ?_,hv⟩,hA⟩
         . split
           . exact List.mem_append_right _ hb
           . exact hb
         . rw[hr]; exact List.mem_append_left _ (ux hx hb)
       . obtain⟨B',hB,hA⟩:=BH r _ _ _ hk;refine⟨B',λ b hb=>hB b ?_,o,.aQ [],ho,.inr ⟨hg,rfl⟩,hA⟩;split
         . exact List.mem_append_right _ hb
         . exact hb
 | (false,i)::r,B,ρ,U,h=>⟨B,λ _ h=>h,ou B _ _ _ h⟩
end
def Dw:List (Bool×Nat)->Bool
 | []=>true
 | (true,_)::r=>Dw r
 | (false,_)::r=>r.isEmpty
theorem BG {C:ck} {mu:List Nat} {ops:Array Oper} {az:St} {K:Env->St->Prop} {Kp:AV->St->Prop}:∀ (l:List (Bool×Nat)) (B:List Nat) (ρ:Env) (U:St),Dw l=true->uS C mu ops az K Kp l ρ U->∃ B',(∀ b∈B,b∈B')/\jH C mu ops B' az K Kp l ρ U
 | [],B,_,_,_,h=>⟨B,λ _ h=>h,h⟩
 | (true,i)::r,B,ρ,U,hl,h=>by
   simp only[uS]at h;split at h
   . exact h.elim
   . rename_i o ho;split at h
     . exact h.elim
     . rename_i hq;rcases rD (λ v hv=>xP hv _ _) h with ⟨hg,v,hv,hk⟩|⟨hg,hk⟩
       . rw[nI]at hv;obtain⟨B',hB,hA⟩:=BG r (z7 C ρ o.op++B) _ _ hl hk;exact⟨B',λ b hb=>hB b (List.mem_append_right _ hb),o,v,ho,.inl ⟨hg,hq,λ hr x hx b hb=>hB b (List.mem_append_left _ (ux hx hb)),hv⟩,hA⟩
       . obtain⟨B',hB,hA⟩:=BG r B _ _ hl hk;exact⟨B',hB,o,.aQ [],ho,.inr ⟨hg,rfl⟩,hA⟩
 | (false,i)::r,B,ρ,U,hl,h=>by
   obtain rfl:r=[]:=by simpa [Dw] using hl
   refine⟨B,λ _ h=>h,?_⟩;simp only[uS]at h;simp only[jH,jv];split at h
   . rename_i o Hu ho;rw[ho];simp only;rw[nI]at h;rcases y4 h with ⟨hg,h⟩|⟨hg,h⟩
     . rw[hg];exact⟨λ _=>ay.wp_mono (λ v U hv=>⟨.inl Hu,hv⟩) _ h,λ h=>by cases h⟩
     . rw[hg];exact⟨λ h=>(by cases h),λ _=>h⟩
   . exact h.elim
def wU (C:ck) (mu:List Nat) (ops:Array Oper) (az:St) (Kp:AV->St->Prop) (B:List Nat) (o:Oper) (K:Env->St->Prop) (ρ:Env) (U:St):Prop :=
 gW ops ρ o.guard ((qv C (lL mu o) o.op ρ U).wp C U (λ v U=>cE B az U/\K (ρ.dw o.dst v) U) Kp) (K (ρ.dw o.dst (.aQ [])) U)
def J1 (C:ck) (mu:List Nat) (ops:Array Oper) (az:St) (K:Env->St->Prop) (Kp:AV->St->Prop) (B:List Nat) (i j:Nat) (post:List (Bool×Nat)) (ρ:Env) (U:St):Prop:=match ops[i]?,ops[j]? with
 | some oi,some oj=>wU C mu ops az Kp B oi (λ ρ U=>wU C mu ops az Kp B oj (λ ρ U=>mL C mu ops az K Kp B post ρ U) ρ U) ρ U /\
    wU C mu ops az Kp B oj (λ ρ U=>wU C mu ops az Kp B oi (λ ρ U=>mL C mu ops az K Kp B post ρ U) ρ U) ρ U
 | _,_=>False
def J0 (ops:Array Oper) (pre:List (Bool×Nat)) (i j:Nat) (post:List (Bool×Nat)):Bool :=
 (match mh ops pre (Array.replicate ops.size false) with
   | some l=>(Region.ready .any ops l==[i,j])&&((Region.ready .any ops (l.setIfInBounds i true)==[j])&&((Region.ready .any ops (l.setIfInBounds j true)==[i])&&(!Nat.beq i j&&fT ops post ((l.setIfInBounds i true).setIfInBounds j true))))
   | none=>false)&&Nat.beq (pre.length+(post.length+2)) ops.size
section
variable {C:ck} {mu:List Nat} {ops:Array Oper} {az:St} {K:Env->St->Prop} {Kp:AV->St->Prop} {B:List Nat}
theorem CO {i:Nat} {o:Oper} {K0 K1:Env->St->Prop} {I':St->Prop} (ho:ops[i]?=some o) (hI:∀ U,cE B az U->I' U) (hk:∀ ρ U,cE B az U->K0 ρ U->K1 ρ U) {ρ:Env} {U:St} (hs:cE B az U) (h:wU C mu ops az Kp B o K0 ρ U):jv C mu ops I' i K1 Kp ρ U:=by
 unfold jv;rw[ho];dsimp only;unfold wU at h;rw[nI]at h;rcases y4 h with ⟨hg,h⟩|⟨hg,h⟩
 . rw[hg];exact⟨λ _=>ay.wp_mono (λ v U hv=>⟨hI _ hv.1,hk _ _ hv.1 hv.2⟩) _ h,λ h=>by cases h⟩
 . rw[hg];exact⟨λ h=>(by cases h),λ _=>hk _ _ hs h⟩
theorem TF {i j:Nat} {post:List (Bool×Nat)} {oC:Array Bool} (h1:Region.ready .any ops oC=[i,j]) (h2:Region.ready .any ops (oC.setIfInBounds i true)=[j]) (h3:Region.ready .any ops (oC.setIfInBounds j true)=[i]) (dV:i≠j)
 (h4:fT ops post ((oC.setIfInBounds i true).setIfInBounds j true)=true) {ρ:Env} {U:St} (hD:Dn ops oC) (hI:cE B az U) (h:J1 C mu ops az K Kp B i j post ρ U):ki C mu ops (cE B az) K Kp (post.length+2) oC ρ U:=by
 unfold J1 at h;split at h
 . rename_i oi oj Rs ma;have key:∀ (a b:Nat) (oa ob:Oper),ops[a]?=some oa->ops[b]?=some ob->a∈Region.ready .any ops oC->Region.ready .any ops (oC.setIfInBounds a true)=[b]->fT ops post ((oC.setIfInBounds a true).setIfInBounds b true)=true ->
    wU C mu ops az Kp B oa (λ ρ U=>wU C mu ops az Kp B ob (λ ρ U=>mL C mu ops az K Kp B post ρ U) ρ U) ρ U ->
    jv C mu ops (Ix ops (cE B az) a) a (ki C mu ops (cE B az) K Kp (post.length+1) (oC.setIfInBounds a true)) Kp ρ U:=by
    intro a b oa ob hoa hob hra Hz pV hw;refine CO hoa (λ _ h=>.inr h) (λ ρ1 bF wx hw1=>?_) hI hw;refine⟨λ h0=>(by rw[Hz]at h0; cases h0),λ c hc=>?_⟩;have Ho:=hc;rw[Hz,lN]at hc;subst hc;exact CO hob (λ _ h=>.inr h) (λ o5 bI yB HE=>p4 post _ o5 bI pV ((hD.set hra).set Ho) (.inr yB) (ou B _ _ _ HE)) wx hw1
   refine⟨λ h0=>(by rw[h1]at h0; cases h0),λ c hc=>?_⟩;have Ho:=hc;rw[h1]at hc;simp only[fe,List.not_mem_nil,or_false]at hc;rcases hc with rfl|rfl
   . exact key _ _ _ _ Rs ma Ho h2 h4 h.1
   . exact key _ _ _ _ ma Rs Ho h3 (by rw[Array.setIfInBounds_comm _ _ dV.symm]; exact h4) h.2
 . exact h.elim
theorem qz {I:St->Prop} {Kp vo:AV->St->Prop} (hp:∀ v U,Kp v U->vo v U):∀ (n:Nat) (listed:Array Bool) (ρ:Env) (U:St),ki C mu ops I K Kp n listed ρ U->ki C mu ops I K vo n listed ρ U
 | 0,_,_,_,h=>h
 | n+1,listed,ρ,U,h=>⟨h.1,λ i hi=>by
   have h2:=h.2 i hi;unfold jv at h2 ⊢;split
   . rename_i ho; rw[ho]at h2; exact qz hp n _ _ _ h2
   . rename_i o ho;rw[ho]at h2;dsimp only at h2 ⊢;cases hg:fI ops ρ o.guard<;>rw[hg]at h2<;>simp only[aA]at h2 ⊢
     exact⟨λ e=>ay.wp_mono (λ v U hv=>⟨hv.1,qz hp n _ _ _ hv.2⟩) _ (ay.zE hp _ (h2.1 e)),λ e=>qz hp n _ _ _ (h2.2 e)⟩⟩
theorem bo.Mm {nt id:Nat} {ro:Ro} {Q:Ex->Env->St->Prop} {ρ:Env} {U:St} (pre:List (Bool×Nat)) (i j:Nat) (post:List (Bool×Nat)) (hm:C.P.follows .mixedOrders=true) (cw:jt nt ops=true) (hp:J0 ops pre i j post=true) (Rh:∀ v U,Kp v U->vp Q v U)
 (h:mL C mu ops U (λ de ad=>J1 C mu ops U (KQ Q) Kp B i j post de ad) Kp B pre ρ U):bo C nt ro (.region id ops true) Q ρ U:=by
 simp only[J0,bV]at hp;obtain⟨h1,h2⟩:=hp;have h2:=dF h2;split at h1
 . rename_i l hl;simp only[bV,beq_iff_eq,Bool.not_eq_true']at h1;obtain⟨k1,k2,k3,k4,k5⟩:=h1;have dV:i≠j:=λ e=>by subst e; simp at k4
   refine bo.xl mu (cE B U) hm cw (qz Rh _ _ _ _ ?_);have:=uR (λ de ad hD hI hw=>TF k1 k2 k3 dV k5 hD hI hw) pre _ ρ U hl (Dn.none _ _) (λ _ _=>rfl) (ou B _ _ _ h);rw[h2]at this;exact this
 . cases h1
end
structure Qr where
 mid:(St->Prop)->St->Prop
 n:St->Prop
 e:Nat->St->Prop
 r:St->Prop
def qq:Nat->Type
 | 0=>Qr->St->Prop
 | n+1=>AV->qq n
def qq.app:(n:Nat)->qq n->List AV->Qr->St->Prop
 | 0,f,_,q,U=>f q U
 | n+1,f,x::xs,q,U=>qq.app n (f x) xs q U
 | n+1,f,[],q,U=>qq.app n (f .any) [] q U
def qq.lam:(n:Nat)->(List AV->Qr->St->Prop)->qq n
 | 0,F=>λ q U=>F [] q U
 | n+1,F=>λ x=>qq.lam n (λ xs q U=>F (x::xs) q U)
theorem qq.nY:∀ (n:Nat) (F:List AV->Qr->St->Prop) (xs:List AV) (q:Qr) (U:St),xs.length=n->qq.app n (qq.lam n F) xs q U=F xs q U
 | 0,F,[],q,U,_=>rfl
 | n+1,F,x::xs,q,U,h=>qq.nY n (λ xs U=>F (x::xs) U) xs q U (by simpa using h)
 | 0,F,_::_,q,U,h=>by simp at h
 | n+1,F,[],q,U,h=>by simp at h
def eY.st (L:eY) (s:LoopState) (p:Option Code):eY:={ L with state:=s,eF:=p }
def aa7 (o:Nat) (k:St->Prop) (U:St):Prop:=∃ L,U.loop o=some L/\L.state=.ready/\k (U.set o (.loop { L with state:=.busy }))
def aba (o:Nat) (R:cM->St->Prop):Qr where
 mid:=aa7 o
 n:=λ U=>∃ L,U.loop o=some L/\R (.ret (.bool true)) (U.set o (.loop { L with state:=.ready,eF:=none }))
 e:=λ id U=>∃ L,U.loop o=some L/\R (.ret (.bool false)) (U.set o (.loop { L with state:=.done,eF:=some (.exit id) }))
 r:=λ U=>∃ L,U.loop o=some L/\R (.ret (.bool false)) (U.set o (.loop { L with state:=.done,eF:=some .ret }))
def Mj (o:Nat) (Kn:St->Prop) (Ke:Nat->St->Prop) (Kr:St->Prop) (Kp:AV->St->Prop):cM->St->Prop
 | .ret _,ad=>∃ L,ad.loop o=some L/\L.state≠.busy/\(match L.eF with
   | none=>Kn (ad.del o)
   | some .ret=>Kr (ad.del o)
   | some (.exit id)=>Ke id (ad.del o)
   | _=>False)
 | .panic x,ad=>Kp x ad
def rH (C:ck) (np:Nat) (fv:AV) (U:St) (B:qq np) (Kn:St->Prop) (Ke:Nat->St->Prop) (Kr:St->Prop) (Kp:AV->St->Prop):Prop :=
 match fv with
 | .func (.func ir) first cap=>dG C.P ir=true/\∀ (o:Nat) (L:eY),U.cV o->L.state=.ready->L.eF=none ->
   (∀ (args:List AV) (bF:St) (R:cM->St->Prop) (L1:eY),args.length=np->bF.loop o=some L1->L1.st .ready none=L->qq.app np B args (aba o R) bF->kh C o args bF R) ->
   ae C ir (first++[.qf o]++cap) (U.new o (.loop L)) (Mj o Kn Ke Kr Kp)
 | _=>False
def Hb (b:Bool) (A B:Prop):Prop:=match b with
 | true=>A
 | false=>B
def j5 (n:Nat) (J:Fn n) (B:Fn n->Prop):Prop:=∀ j:Fn n,Fn.imp n J j->B j
def dT (n:Nat) (init:List AV) (U:St) (B:Fn n->Fn n):Prop :=
 ∃ I:Nat->Fn n,(∃ m,Fn.app n (I m) init U)/\∀ m,Fn.imp n (I m) (B (Fn.lam n λ vs U=>∃ m',m'<m/\Fn.app n (I m') vs U))
inductive An where
 | z
 | sq (live:Option (List Nat)) (a b:An)
 | cd (a b:An)
 | bk (a:An)
 | lp (live:List Nat) (a:An)
 | rg (mu pf:List Nat) (cI:Option Pl)
 | rb (mu:List Nat) (cI:Pl)
 | rl (mu:List Nat) (cI:Pl)
 | r2 (mu:List Nat) (pre:List (Bool×Nat)) (i j:Nat) (post:List (Bool×Nat))
 | rf (a b:An)
def lz (C:ck):Code->An->Qx->Env->St->Prop
 | .skip,_,Q,ρ,U=>Q.n ρ U
 | .exit i,_,Q,ρ,U=>Q.e i ρ U
 | .ret,_,Q,ρ,U=>Q.r ρ U
 | .seq a b,.sq none x y,Q,ρ,U=>lz C a x { Q with n:=λ ρ U=>lz C b y Q ρ U } ρ U
 | .seq a b,.sq (some live) x y,Q,ρ,U=>j5 live.length (Fn.lam live.length λ vs U=>lz C b y Q (Bm live vs) U)
    λ j=>lz C a x { Q with n:=λ ρ U=>Fn.app live.length j (live.map ρ.get) U } ρ U
 | .cond c a b,.cd x y,Q,ρ,U=>aA (ρ.ev C c) (lz C a x Q ρ U) (lz C b y Q ρ U)
 | .block i a,.bk x,Q,ρ,U=>lz C a x { Q with e:=λ k ρ U=>Hb (Nat.beq k i) (Q.n ρ U) (Q.e k ρ U) } ρ U
 | .loop a,.lp live x,Q,ρ,U=>dT live.length (live.map ρ.get) U λ lp=>Fn.lam live.length λ vs U =>
    lz C a x { Q with n:=λ ρ U=>Fn.app live.length lp (live.map ρ.get) U } (Bm live vs) U
 | .region _ ops false,.rg mu pf none,Q,ρ,U=>sT C mu pf ops ops.toList ρ U Q.n Q.p
 | .region _ ops true,.rg mu pf (some cI),Q,ρ,U=>DA C mu ops U Q.n Q.p cI.steps [] ρ U
 | .region _ ops true,.rb mu cI,Q,ρ,U=>∃ B:List Nat,mL C mu ops U Q.n Q.p B cI.steps ρ U
 | .region _ ops true,.rl mu cI,Q,ρ,U=>uS C mu ops U Q.n Q.p cI.steps ρ U
 | .region _ ops true,.r2 mu pre i j post,Q,ρ,U=>∃ B:List Nat,mL C mu ops U (λ de ad=>J1 C mu ops U Q.n Q.p B i j post de ad) Q.p B pre ρ U
 | .rangeFunc f ps a b,.rf x y,Q,ρ,U=>rH C ps.size (ρ.ev C f) U (qq.lam ps.size λ args qr U=>lz C a x
    { n:=λ ρ U=>qr.mid (λ U=>lz C b y { n:=λ _ U=>qr.n U,e:=λ i _ U=>qr.e i U,r:=λ _ U=>qr.r U,p:=λ _ _=>False } ρ U) U,e:=λ _ _ _=>False,r:=λ _ _=>False,p:=λ _ _=>False }
    ⟨uW ρ.get ps.toList args⟩ U) (λ U=>Q.n ρ U) (λ i U=>Q.e i ρ U) (λ U=>Q.r ρ U) (λ x U=>Q.p x U)
 | _,_,_,_,_=>False
def jX (nt:Nat):Bool->Code->An->Bool
 | _,.skip,_=>true
 | _,.exit _,_=>true
 | _,.ret,_=>true
 | top,.seq a b,.sq _ x y=>jX nt top a x&&jX nt top b y
 | top,.cond _ a b,.cd x y=>jX nt top a x&&jX nt top b y
 | top,.block _ a,.bk x=>jX nt top a x
 | top,.loop a,.lp _ x=>jX nt top a x
 | _,.region _ ops false,.rg _ _ none=>jt nt ops
 | _,.region _ ops true,.rg _ _ (some cI)=>jt nt ops&&Fp ops cI
 | _,.region _ ops true,.rb _ cI=>jt nt ops&&Fp ops cI
 | _,.region _ ops true,.rl _ cI=>jt nt ops&&(Fp ops cI&&Dw cI.steps)
 | _,.region _ ops true,.r2 _ pre i j post=>jt nt ops&&J0 ops pre i j post
 | top,.rangeFunc _ ps a b,.rf x y=>top&&ps.toList.all (λ t=>Nat.blt t nt)&&jX nt false a x&&jX nt false b y
 | _,_,_=>false
theorem xC {C:ck} {nt:Nat} (hm:C.P.follows .mixedOrders=true):∀ (c:Code) (an:An) (top:Bool) (ro:Ro) (Q:Qx) (ρ:Env) (U:St),jX nt top c an=true->(top=true->ro=.fn) ->
 lz C c an Q ρ U->bo C nt ro c Q.q ρ U:=by
 intro c
 induction c with
 | skip=>intro an top ro Q ρ U cw ht h; exact bo.skip h
 | exit i=>intro an top ro Q ρ U cw ht h; exact bo.exit h
 | ret=>intro an top ro Q ρ U cw ht h; exact bo.ret h
 | seq a b wz HF =>
   intro an top ro Q ρ U cw ht h;cases an<;>simp only[jX,bQ,bV]at cw
   rename_i live x y;refine bo.seq ?_;cases live with
   | none =>
     simp only[lz]at h;refine (wz x top ro _ ρ U cw.1 ht h).mono λ e ρ U he=>?_;cases e<;>first|exact HF y top ro Q ρ U cw.2 ht he|exact he
   | some live =>
     simp only[lz]at h;have:=h (Fn.lam live.length λ vs U=>bo C nt ro b Q.q (Bm live vs) U) (Fn.G0 λ xs U hl hx=>by
      rw[Fn.nY _ _ _ _ hl]at hx ⊢;exact HF y top ro Q _ _ cw.2 ht hx)
     refine (wz x top ro _ ρ U cw.1 ht this).mono λ e ρ U he=>?_;cases e with
     | normal =>
       have jV:Fn.app live.length (Fn.lam live.length λ vs U=>bo C nt ro b Q.q (Bm live vs) U) (live.map ρ.get) U:=he;rw[Fn.nY _ _ _ _ (by simp)]at jV;exact bo.Il jV (Ca ρ live)
     | exit i=>exact he
     | ret=>exact he
     | panic x=>exact he
 | cond c a b wz HF =>
   intro an top ro Q ρ U cw ht h;cases an<;>simp only[jX,bQ,bV]at cw
   rename_i x y;simp only[lz]at h;cases hc:ρ.ev C c<;>rw[hc]at h<;>simp only[aA]at h
   exact bo.cond hc (λ e=>wz x top ro Q ρ U cw.1 ht (h.1 e)) (λ e=>HF y top ro Q ρ U cw.2 ht (h.2 e))
 | block i a wz =>
   intro an top ro Q ρ U cw ht h;cases an<;>simp only[jX,bQ]at cw
   rename_i x;simp only[lz]at h;refine bo.block ((wz x top ro _ ρ U cw ht h).mono λ e ρ U he=>?_);cases e with
   | exit k =>
     have jV:Hb (Nat.beq k i) (Q.n ρ U) (Q.e k ρ U):=he;simp only[vT];cases hb:Nat.beq k i with
     | true=>rw[hb]at jV; rw[if_pos (dF hb)]; exact jV
     | false=>rw[hb]at jV; rw[if_neg (λ e=>by subst e; simp at hb)]; exact jV
   | normal=>exact he
   | ret=>exact he
   | panic x=>exact he
 | loop a wz =>
   intro an top ro Q ρ U cw ht h;cases an<;>simp only[jX,bQ]at cw
   rename_i live x;simp only[lz]at h;obtain⟨I,⟨m,h0⟩,hr⟩:=h;refine bo.loop (λ m ρ U=>Fn.app live.length (I m) (live.map ρ.get) U) (n:=m) h0 λ m ρ U hI=>?_;have:=Fn.HH (hr m) _ _ (by simp) hI;rw[Fn.nY _ _ _ _ (by simp)]at this;refine bo.Il ((wz x top ro _ _ _ cw ht this).mono λ e de ad he=>?_) (Ca ρ live);cases e with
   | normal =>
     have jV:Fn.app live.length (Fn.lam live.length λ vs U=>∃ m',m'<m/\Fn.app live.length (I m') vs U) (live.map de.get) ad:=he;rw[Fn.nY _ _ _ _ (by simp)]at jV;exact jV
   | exit i=>exact he
   | ret=>exact he
   | panic x=>exact he
 | region id ops draw =>
   intro an top ro Q ρ U cw ht h;have kp:vp Q.q=λ x U=>∀ ρ:Env,Q.p x U:=rfl;cases draw with
   | false =>
     cases an with
     | rg mu pf cI =>
       cases cI with
       | none =>
         simp only[jX]at cw;simp only[lz]at h;refine bo.region mu cw ?_;have h2:=tO _ ρ U h;exact sr (λ _ _ h=>h) (λ v U hv ρ=>hv) _ h2
       | some cI=>simp[jX]at cw
     | _=>simp[jX]at cw
   | true =>
     cases an with
     | rg mu pf cI =>
       cases cI with
       | none=>simp[jX]at cw
       | some cI =>
         simp only[jX,bV]at cw;simp only[lz]at h;obtain⟨B,_,hA⟩:=BH _ _ _ _ h;refine bo.qG mu B cI.steps hm cw.1 (BF cw.2) ?_;exact gO (λ _ _ h=>h) (λ v U hv ρ=>hv) _ hA
     | rb mu cI =>
       simp only[jX,bV]at cw;simp only[lz]at h;obtain⟨B,hB⟩:=h;refine bo.qG mu B cI.steps hm cw.1 (BF cw.2) ?_;exact gO (λ _ _ h=>h) (λ v U hv ρ=>hv) _ (ou B _ _ _ hB)
     | rl mu cI =>
       simp only[jX,bV]at cw;simp only[lz]at h;obtain⟨B,_,hA⟩:=BG _ [] _ _ cw.2.2 h;refine bo.qG mu B cI.steps hm cw.1 (BF cw.2.1) ?_;exact gO (λ _ _ h=>h) (λ v U hv ρ=>hv) _ hA
     | r2 mu pre i j post =>
       simp only[jX,bV]at cw;simp only[lz]at h;obtain⟨B,hB⟩:=h;exact bo.Mm (mu:=mu) (B:=B) pre i j post hm cw.1 cw.2 (λ v U hv ρ=>hv) hB
     | _=>simp[jX]at cw
 | rangeFunc f ps a b wz HF =>
   intro an top ro Q ρ U cw ht h;cases an<;>simp only[jX,bQ,bV]at cw
   rename_i x y;obtain⟨⟨⟨h1,h2⟩,h3⟩,h4⟩:=cw;have EH:=ht h1;subst EH;simp only[lz,rH]at h;split at h
   . rename_i ir first cap hf
     obtain⟨qY,h⟩:=h;refine bo.rangeFunc 0 hf qY λ o ho=>?_;refine (h o ⟨ρ.get,nt,ps,a,b,.ready,none,0⟩ ho rfl rfl ?_).mono λ r ad hr=>?_
     . intro args bF R L1 hl pT fz hB;obtain⟨r1,r2,r3,r4,r5,r6,r7,r8⟩:=L1;simp only[eY.st,eY.mk.injEq,true_and]at fz;obtain⟨e1,e2,e3,e4,e5,e6⟩:=fz;subst e1 e2 e3 e4 e5 e6;rw[qq.nY _ _ _ _ _ hl]at hB;refine kh.Fj pT (by simpa using hl) (λ t ht=>by
        have:=eH.1 h2 t ht;exact Nat.le_of_ble_eq_true this) ?_
       refine (wz x false (.round o) _ _ _ h3 (λ h=>by cases h) hB).mono λ e de ad he=>?_;cases e with
       | normal =>
         obtain⟨L,k1,k2,k3⟩:=he;refine⟨L,k1,k2,(HF y false (.round o) _ _ _ h4 (λ h=>by cases h) k3).mono λ e o5 bI he=>?_⟩;cases e with
         | normal=>exact he
         | exit i=>exact he
         | ret=>exact he
         | panic x=>exact he
       | exit i=>exact he
       | ret=>exact he
       | panic x=>exact he
     . cases r with
       | ret v =>
         obtain⟨L,k1,k2,k3⟩:=hr;refine⟨L,k1,k2,?_⟩;split at k3
         . rename_i hp; rw[hp]; exact k3
         . rename_i hp; rw[hp]; exact k3
         . rename_i hp; rw[hp]; exact k3
         . exact k3.elim
       | panic v=>exact hr
   . exact h.elim
 | scope a wz=>intro an top ro Q ρ U cw; cases an<;>simp[jX]at cw
 | label l=>intro an top ro Q ρ U cw; cases an<;>simp[jX]at cw
 | goto l=>intro an top ro Q ρ U cw; cases an<;>simp[jX]at cw
 | refuse w=>intro an top ro Q ρ U cw; cases an<;>simp[jX]at cw
def bE (vt:Option (Bool×Nat)) (p:AV) (U:St) (k:AV->Prop):Prop:=match ar vt p U with
 | .val v=>k v
 | @ay.cond q _ (.val v)=>q/\k v
 | _=>False
def BN (P:Program) (ρ:Env) (U:St):List ResultVar->(List AV->Prop)->Prop
 | [],k=>k []
 | .tmp t::rs,k=>BN P ρ U rs λ vs=>k (ρ.get t::vs)
 | .cell t ty::rs,k=>bE (lR P ty) (ρ.get t) U λ v=>BN P ρ U rs λ vs=>k (v::vs)
theorem tS {P:Program} {ρ:Env} {U:St}:∀ (l:List ResultVar) (k:List AV->Prop),BN P ρ U l k->sV P ρ U l k
 | [],_,h=>h
 | .tmp t::rs,k,h=>tS rs _ h
 | .cell t ty::rs,k,h=>by
   simp only[BN,bE]at h;simp only[sV,xR];rw[show si P ty (ρ.get t) U=ar (lR P ty) (ρ.get t) U from rfl];split at h
   . rename_i hl; rw[hl]; exact tS rs _ h
   . rename_i hl; rw[hl]; exact⟨h.1,tS rs _ h.2⟩
   . exact h.elim
def aq (R:cM->St->Prop) (x:AV) (U:St):Prop:=∃ x' ad,lH x U x' ad/\R (.ret x') ad
def aa (R:cM->St->Prop) (x:AV) (U:St):Prop:=R (.panic x) U
def abj (P:Program) (fn:Func) (R:cM->St->Prop):Qx where
 n:=λ ρ U=>BN P ρ U fn.results.toList λ vs=>aq R (s0 vs) U
 e:=λ _ _ _=>False
 r:=λ ρ U=>BN P ρ U fn.results.toList λ vs=>aq R (s0 vs) U
 p:=aa R
def Dj (C:ck) (fn:Func) (an:An) (args:List AV) (R:cM->St->Prop) (U:St):Prop:=match fn.body with
 | some c=>lz C c an (abj C.P fn R) (Env.gU args) U
 | none=>False
def okF (fn:Func) (an:An) (n:Nat):Bool:=match fn.body with
 | some c=>jX fn.ntmps true c an&&Nat.ble n fn.ntmps
 | none=>false
theorem ae.HW {C:ck} (hm:C.P.follows .mixedOrders=true) {f:FuncId} {fn:Func} (an:An) {args:List AV} {R:cM->St->Prop} {U:St} (hf:C.P.funcs[f]?=some fn) (cw:okF fn an args.length=true)
 (h:Dj C fn an args R U):ae C f args U R:=by
 unfold okF at cw;unfold Dj at h;split at cw
 . rename_i c hb;rw[hb]at h;simp only[bV]at cw;refine ae.HX hf hb (Nat.le_of_ble_eq_true cw.2) ?_;refine (xC hm c an true .fn _ _ _ cw.1 (λ _=>rfl) h).mono λ e ρ U he=>?_;cases e with
   | normal=>exact tS _ _ he
   | ret=>exact tS _ _ he
   | panic x=>exact he
   | exit i=>exact he
 . cases cw
theorem aq.mk {R:cM->St->Prop} {x:AV} {U:St} (h:R (.ret x) U):aq R x U:=⟨x,U,lH.refl _ _,h⟩
end Go.Rip
namespace Go.Rip
open Go.RowKit
section
variable {C:ck} {U:St} {K:AV->St->Prop} {Kp:AV->St->Prop}
@[simp] theorem ak (v:AV):(ay.val v).wp C U K Kp=K v U:=rfl
@[simp] theorem jL (v:AV) (b:Nat) (x:Live):(ay.kI v b x).wp C U K Kp=K v (U.set b x):=rfl
@[simp] theorem nK (k:NV) (x:Live):(ay.new k none x).wp C U K Kp=∀ b,U.cV b->K (k.at b) (U.new b x):=rfl
@[simp] theorem adf (k:NV) (d:Nat) (x:Live):(ay.new k (some d) x).wp C U K Kp=∀ b,(U.del d).cV b->K (k.at b) ((U.del d).new b x):=rfl
@[simp] theorem jr (f:FuncId) (args:List AV):(ay.enter f args).wp C U K Kp=ae C f args U (aj K Kp):=rfl
@[simp] theorem zF (f:Nat) (args:List AV):(ay.yield f args).wp C U K Kp=kh C f args U (aj K Kp):=rfl
@[simp] theorem QW (v:AV):(ay.panic v).wp C U K Kp=Kp v U:=rfl
@[simp] theorem wp_cond (p:Prop) [Decidable p] (r:ay):(ay.cond p r).wp C U K Kp=(p/\r.wp C U K Kp):=rfl
@[simp] theorem adh:ay.bad.wp C U K Kp=False:=rfl
@[simp] theorem adi (p:Prop) [Decidable p] (r s:ay):(if p then r else s).wp C U K Kp=if p then r.wp C U K Kp else s.wp C U K Kp:=by split<;>rfl
@[simp] theorem bA (x:AV):aj K Kp (.ret x) U=K x U:=rfl
@[simp] theorem XY (x:AV):aj K Kp (.panic x) U=Kp x U:=rfl
end
@[simp] theorem XZ (b:Bool) (A B:Prop):aA (.bool b) A B=((b=true->A)/\(b=false->B)):=rfl
theorem a8 (A B:Prop):aA (.bool true) A B=A:=by simp[aA]
theorem aW (A B:Prop):aA (.bool false) A B=B:=by simp[aA]
theorem bJ (p:Prop) [Decidable p] (A B:Prop):aA (.bool (decide p)) A B=((p->A)/\(¬ p->B)):=by simp[aA]
@[simp] theorem bj (b w:Bool):aB (.bool b) w=.bool (b==w):=rfl
@[simp] theorem ac9 (w:Bool):aB (.aQ []) w=.bool false:=rfl
@[simp] theorem jq (v:AV):BR true v=v:=rfl
@[simp] theorem W1 (v:AV):BR false v=.aQ []:=rfl
@[simp] theorem aP (C:ck) (b:Bool) (r:ay) (k:AV->Prop):af C (.bool b) r k=dD C b r k:=rfl
@[simp] theorem mN (C:ck) (b:Bool) (v:AV) (k:AV->Prop):dD C b (.val v) k=k (BR b v):=rfl
@[simp] theorem X1 (C:ck) (b:Bool) (p:Prop) [Decidable p] (r:ay) (k:AV->Prop):dD C b (.cond p r) k=((b=true->p)/\dD C b r k):=rfl
@[simp] theorem WV (C:ck) (b:Bool) (f:FuncId) (args:List AV) (k:AV->Prop):dD C b (.enter f args) k=∃ v,(b=true->Pure C f args v)/\k (BR b v):=rfl
@[simp] theorem cz (C:ck) (k:AV->Prop):∀ r:ay,(dD C false r k)=k (.aQ [])
 | .val v=>rfl
 | @ay.cond _ _ r=>by simp only[dD]; rw[cz C k r]; simp
 | .enter _ _=>by simp[dD]
 | .kI _ _ _=>by simp[dD]
 | .new _ _ _=>by simp[dD]
 | .jF _ _=>by simp[dD]
 | .yield _ _=>by simp[dD]
 | .panic _=>by simp[dD]
 | .bad=>by simp[dD]
@[simp] theorem aD (C:ck) (v:AV) (k:AV->Prop):ao C (.val v) k=k v:=rfl
@[simp] theorem gP (C:ck) (p:Prop) [Decidable p] (r:ay) (k:AV->Prop):ao C (.cond p r) k=(p/\ao C r k):=rfl
@[simp] theorem xf (C:ck) (f:FuncId) (args:List AV) (k:AV->Prop):ao C (.enter f args) k=∃ v,Pure C f args v/\k v:=rfl
theorem sw (C:ck) (k:AV->Prop):∀ r:ay,dD C true r k=ao C r k
 | .val v=>rfl
 | @ay.cond _ _ r=>by simp only[dD,ao,sw C k r]; simp
 | .enter _ _=>by simp[dD,ao]
 | .kI _ _ _=>by simp[dD,ao]
 | .new _ _ _=>by simp[dD,ao]
 | .jF _ _=>by simp[dD,ao]
 | .yield _ _=>by simp[dD,ao]
 | .panic _=>by simp[dD,ao]
 | .bad=>by simp[dD,ao]
@[simp] theorem cn (C:ck) (k:AV->Prop) (r:ay):dD C true r k=ao C r k:=sw C k r
theorem AE (C:ck) (k:AV->Prop) (r:ay) (p:Prop) [Decidable p]:dD C (decide p) r k=((p->ao C r k)/\(¬ p->k (.aQ []))):=by
 by_cases h:p<;>simp[h]
theorem yJ (C:ck) (k:AV->Prop) (r:ay) (p:Prop) [Decidable p]:dD C (!decide p) r k=((p->k (.aQ []))/\(¬ p->ao C r k)):=by
 by_cases h:p<;>simp[h]
@[simp] theorem aO (b:Bool) (x y:AV):bu (.bool b) x y=.val (if b=true then x else y):=rfl
@[simp] theorem ite_bool (b x y:Bool):(if b=true then AV.bool x else AV.bool y)=.bool (if b=true then x else y):=by split<;>rfl
section
variable (bt:BT) (l:Bool) (k:IntKind) (a b:Int) (s t:List UInt8)
@[simp] theorem bw:aw .eql bt l (.int k a) (.int k b)=.val (.bool (decide (a=b))):=by simp only[aw,if_true]; rfl
@[simp] theorem cP:aw .neq bt l (.int k a) (.int k b)=.val (.bool (!decide (a=b))):=by simp only[aw,if_true]; rfl
@[simp] theorem bX:aw .lss bt l (.int k a) (.int k b)=.val (.bool (decide (a<b))):=by simp only[aw,if_true]
@[simp] theorem lB:aw .leq bt l (.int k a) (.int k b)=.val (.bool (decide (a<=b))):=by simp only[aw,if_true]
@[simp] theorem eX:aw .gtr bt l (.int k a) (.int k b)=.val (.bool (decide (b<a))):=by simp only[aw,if_true,gt_iff_lt]
@[simp] theorem iN:aw .geq bt l (.int k a) (.int k b)=.val (.bool (decide (b<=a))):=by simp only[aw,if_true,ge_iff_le]
@[simp] theorem jN:aw .add bt l (.int k a) (.int k b)=gh k (a+b):=by simp only[aw,if_true]
@[simp] theorem jP:aw .sub bt l (.int k a) (.int k b)=gh k (a-b):=by simp only[aw,if_true]
@[simp] theorem Gi:aw .mul bt l (.int k a) (.int k b)=gh k (a*b):=by simp only[aw,if_true]
@[simp] theorem XW:aw .quo bt l (.int k a) (.int k b)=.cond (b≠0) (gh k (a.tdiv b)):=by simp only[aw,if_true]
@[simp] theorem XX:aw .rem bt l (.int k a) (.int k b)=.cond (b≠0) (.val (.int k (a.tmod b))):=by simp only[aw,if_true]
@[simp] theorem jO:aw .eql bt l (.str s) (.str t)=.val (.bool (decide (s=t))):=by
 show ay.val (.bool (s==t))=_;rw[show (s==t)=decide (s=t) from oP.2 (by simp)]
@[simp] theorem pB:aw .neq bt l (.str s) (.str t)=.val (.bool (!decide (s=t))):=by
 show ay.val (.bool (s != t))=_;rw[show (s != t)=!decide (s=t) from oP.2 (by simp)]
@[simp] theorem XT:aw .add bt l (.str s) (.str t)=.cond (s.length+t.length<=4294967296) (.val (.str (s++t))):=rfl
@[simp] theorem U2 (x y:Bool) (i p:Bool) (f:Option (List FK)) (sl:Bool):aw .eql ⟨true,i,p,f,sl⟩ l (.bool x) (.bool y)=.val (.bool (x==y)):=by simp only[aw,if_true]
@[simp] theorem DV (x y:Bool) (i p:Bool) (f:Option (List FK)) (sl:Bool):aw .neq ⟨true,i,p,f,sl⟩ l (.bool x) (.bool y)=.val (.bool (x != y)):=by simp only[aw,if_true]
@[simp] theorem XU (x y:List AV) (i p q:Bool) (f:List FK) (sl:Bool):aw .eql ⟨q,i,p,some f,sl⟩ l (.agg x) (.agg y)=tb .bool (mU f x y):=rfl
@[simp] theorem XV (x y:List AV) (i p q:Bool) (f:List FK) (sl:Bool):aw .neq ⟨q,i,p,some f,sl⟩ l (.agg x) (.agg y)=tb (λ r=>.bool (!r)) (mU f x y):=rfl
@[simp] theorem aad (f:Bool->AV) (r:Bool):tb f (some r)=.val (f r):=rfl
@[simp] theorem dr (x:Bool):ig .not (.bool x)=.val (.bool (!x)):=rfl
@[simp] theorem fx:gh .i64 a=.cond (tf a) (.val (.int .i64 a)):=rfl
@[simp] theorem ON:gh .u8 a=.val (.int .u8 (IntKind.u8.wrap a)):=rfl
end
theorem bD {n:Int} (h1:-9223372036854775808<=n) (h2:n<=9223372036854775807):tf n:=⟨h1,h2⟩
section
variable (sz b o:Nat) (p v:AV) (U:St) (L l:List AV)
theorem rp {U:St} {b:Nat} {L:List AV} (h:U.box b=some L) (n o:Nat):ar (some (false,n)) (.box b o) U=fV (L.drop o):=by simp[ar,km,h]
theorem LJ {U:St} {b:Nat} {L:List AV} (h:U.box b=some L) (n o:Nat):ar (some (true,n)) (.box b o) U=.cond (n<=(L.drop o).length) (.val (.agg ((L.drop o).take n))):=by simp[ar,km,h]
@[simp] theorem sj:ar (some (false,sz)) (.ca L) U=fV L:=rfl
@[simp] theorem JB:ar (some (true,sz)) (.ca L) U=.cond (sz<=L.length) (.val (.agg (L.take sz))):=rfl
@[simp] theorem dj (x:AV):fV (x::L)=.val x:=rfl
theorem kO {U:St} {b:Nat} {L:List AV} (h:U.box b=some L) (t:Bool) (n o:Nat) (v:AV):aG (some (t,n)) (.box b o) v U=.cond (v.cA=true/\(au v).length=n/\o+n<=L.length) (.kI (.aQ []) b (.box (ax L o (au v)))):=by simp[aG,h]
@[simp] theorem bS:aS (.box b o)=.val (.box b o):=rfl
@[simp] theorem vI:aS (.ca L)=.val (.ca L):=rfl
@[simp] theorem TJ (f:Nat) (x y:List AV):aS (.func (.func f) x y)=.val (.func (.func f) x y):=rfl
@[simp] theorem aN (k:Nat):ah (some k) (.box b o)=.val (.box b (o+k)):=rfl
@[simp] theorem di (k:Nat):ah (some k) (.ca L)=.val (.ca (L.drop k)):=rfl
@[simp] theorem IJ (k n:Nat):rW (some (k,false,n)) (.agg L)=fV (L.drop k):=rfl
@[simp] theorem YC (k n:Nat):rW (some (k,true,n)) (.agg L)=.cond (k+n<=L.length) (.val (.agg ((L.drop k).take n))):=rfl
@[simp] theorem vG (e n:Nat) (c:kf) (k:IntKind) (j:Int) (at_:Option (Nat×TypeId×Nat)):aJ (some (e,sz)) at_ (.vec n c L) (.int k j)=.cond (0<=j/\j<n) (.val (.ca (L.drop (j.toNat*sz)))):=rfl
@[simp] theorem Wt (e n z t:Nat) (k:IntKind) (j:Int) (at_:Option (Nat×TypeId×Nat)):aJ (some (e,sz)) at_ (.ms b o n z t) (.int k j)=.cond (0<=j/\j<n/\z=sz) (.val (.box b (o+j.toNat*sz))):=rfl
@[simp] theorem Cs (s:List UInt8) (k:IntKind) (j:Int) (at_:Option (Nat×TypeId×Nat)) (vt:Option (Bool×Nat)):gk true at_ vt (.str s) (.int k j)=.cond (0<=j/\j<s.length) (.val (.int .u8 (s.getD j.toNat 0).toNat)):=by simp[gk]
@[simp] theorem iX (s:List UInt8):bR (some true) (.str s)=.val (.int .i64 s.length):=rfl
@[simp] theorem qN (n:Nat) (c:kf):bR (some false) (.vec n c L)=.val (.int .i64 n):=rfl
@[simp] theorem Am (n z e:Nat):bR (some false) (.ms b o n z e)=.val (.int .i64 n):=rfl
@[simp] theorem len_nil:bR (some false) .ag=.val (.int .i64 0):=rfl
@[simp] theorem bh (k:Nat):aK (.aQ L) k=fV (L.drop k):=rfl
@[simp] theorem B6:au (.agg L)=L:=rfl
@[simp] theorem Kw (k:IntKind) (n:Int):au (.int k n)=[.int k n]:=rfl
@[simp] theorem B7 (s:List UInt8):au (.str s)=[.str s]:=rfl
@[simp] theorem Yw (x:Bool):au (.bool x)=[.bool x]:=rfl
@[simp] theorem Zo:au (.box b o)=[.box b o]:=rfl
@[simp] theorem Zp (n:Nat) (c:kf):au (.vec n c L)=[.vec n c L]:=rfl
@[simp] theorem aar (n z e:Nat):au (.ms b o n z e)=[.ms b o n z e]:=rfl
@[simp] theorem SO:au .ag=[.ag]:=rfl
@[simp] theorem U5:au .aU=[.aU]:=rfl
@[simp] theorem Yy (f:Go.Fn) (x y:List AV):au (.func f x y)=[.func f x y]:=rfl
@[simp] theorem Yx (x y:List AV):au (.eD x y)=[.eD x y]:=rfl
@[simp] theorem aaq (m:Nat):au (.mp m)=[.mp m]:=rfl
@[simp] theorem PE:(AV.agg L).cA=true:=rfl
@[simp] theorem PF (k:IntKind) (n:Int):(AV.int k n).cA=true:=rfl
@[simp] theorem PG (s:List UInt8):(AV.str s).cA=true:=rfl
@[simp] theorem aaa (x:Bool):(AV.bool x).cA=true:=rfl
@[simp] theorem aa4:(AV.box b o).cA=true:=rfl
@[simp] theorem aa5 (n:Nat) (c:kf):(AV.vec n c L).cA=true:=rfl
@[simp] theorem adb (n z e:Nat):(AV.ms b o n z e).cA=true:=rfl
@[simp] theorem TH:AV.ag.cA=true:=rfl
@[simp] theorem X0:AV.aU.cA=true:=rfl
@[simp] theorem aac (f:Go.Fn) (x y:List AV):(AV.func f x y).cA=true:=rfl
@[simp] theorem aab (x y:List AV):(AV.eD x y).cA=true:=rfl
@[simp] theorem ada (m:Nat):(AV.mp m).cA=true:=rfl
@[simp] theorem B5 (h:v.cA=true):fM v=.cond True (.cB (au v)):=by simp[fM,h]
@[simp] theorem p5 (s:List UInt8) (sl:Option (TypeId×Nat)) (lo hi:Option AV):gp true sl (.str s) lo hi=(match dh 0 lo,dh s.length hi with
 | some l,some h=>.cond (0<=l/\l<=h/\h<=s.length) (.val (.str ((s.take h.toNat).drop l.toNat)))
 | _,_=>.bad):=by
 simp only[gp];cases dh 0 lo<;>cases dh (s.length:Int) hi<;>rfl
@[simp] theorem kQ (d:Int):dh d none=some d:=rfl
@[simp] theorem l8 (d:Int) (k:IntKind) (n:Int):dh d (some (.int k n))=some n:=rfl
@[simp] theorem CZ (e n:Nat) (c:kf) (lo hi:Option AV) (st:Bool):gp st (some (e,sz)) (.vec n c L) lo hi=(match dh 0 lo,dh n hi with
 | some a,some b=>.cond (0<=a/\a<=b/\b<=n) (.val (.vec (b.toNat-a.toNat) (uk c hi) ((L.take (b.toNat*sz)).drop (a.toNat*sz))))
 | _,_=>.bad):=by
 simp only[gp];cases dh 0 lo<;>cases dh (n:Int) hi<;>rfl
@[simp] theorem Tc (k:IntKind) (a b:Int):wJ (.int k a) (.int k b)=.val (.int k (if b > a then b else a)):=by simp[wJ]
@[simp] theorem Td (k:IntKind) (a b:Int):wK (.int k a) (.int k b)=.val (.int k (if b<a then b else a)):=by simp[wK]
end
theorem aq.eq {R:cM->St->Prop} {x y:AV} {U:St} (h:R (.ret y) U) (e:x=y):aq R x U:=by subst e; exact aq.mk h
theorem Pure.go {C:ck} {f:FuncId} {args:List AV} {x:AV} {K:AV->St->Prop} {Kp:AV->St->Prop} {U:St} (h:Pure C f args x) (hk:K x U):ae C f args U (aj K Kp):=h U _ hk
end Go.Rip
