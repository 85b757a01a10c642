/- Lemmas for the proof: no conditions. -/
import Derived.Test.YtnfpmiiopiinbaaGreatDoorRipZz
import Derived.Test.YtnfpmiiopiinbaaGreatDoorRipB
set_option linter.unusedVariables false
set_option linter.unusedSimpArgs false
set_option linter.loopingSimpArgs false
namespace Go.Rip
open Go.RowKit
mutual
def flat:AV->Bool
 | .bool _|.int _ _|.str _|.a8|.ag|.kx|.eA|.dE=>true
 | .iface _ v=>flat v
 | .agg l=>Es l
 | .aK l=>Es l
 | _=>false
def Es:List AV->Bool
 | []=>true
 | x::xs=>flat x&&Es xs
end
mutual
theorem aA.flat {g g':Gh}:∀ (x:AV) (v:Value),flat x=true->aA g x v->aA g' x v
 | .bool _,_,_,hr=>hr
 | .int _ _,_,_,hr=>hr
 | .str _,_,_,hr=>hr
 | .a8,_,_,hr=>hr
 | .ag,_,_,hr=>hr
 | .kx,_,_,hr=>hr
 | .eA,_,_,hr=>hr
 | .dE,_,_,hr=>hr
 | .iface t x,v,h,hr=>by
   simp only[Rip.flat]at h;simp only[aA]at hr ⊢;obtain⟨u,h1,h2⟩:=hr;exact⟨u,h1,aA.flat x u h h2⟩
 | .agg l,v,h,hr=>by
   simp only[Rip.flat]at h;simp only[aA]at hr ⊢;obtain⟨vs,h1,h2,h3⟩:=hr;exact⟨vs,h1,h2,aH.flat l _ h h3⟩
 | .aK l,v,h,hr=>by
   simp only[Rip.flat]at h;simp only[aA]at hr ⊢;obtain⟨vs,h1,h3⟩:=hr;exact⟨vs,h1,aH.flat l _ h h3⟩
theorem aH.flat {g g':Gh}:∀ (l:List AV) (vs:List Value),Es l=true->aH g l vs->aH g' l vs
 | [],vs,_,h=>by cases vs<;>simp_all [aH]
 | x::xs,vs,h,hr=>by
   simp only[Es,cb]at h;simp only[aH]at hr ⊢;obtain⟨v,vs',h1,h2,h3⟩:=hr;exact⟨v,vs',h1,aA.flat x v h.1 h2,aH.flat xs vs' h.2 h3⟩
end
theorem ae.aca {C:de} {f:Nat} {args args0:List AV} {U:St} {R:cV->St->Prop} {x:AV} (d:Nat) (EB:∀ i,closed (C.AM i)=true)
 (hw:∀ g vs,aH g (args.map (resolve d U)) vs->aH g args0 vs) (hargs:cD args0=true) (hx:flat x=true) (h:Pure C f args0 x) (hR:R (.ret x) U):ae C f args U R:=by
 intro g w vs hs hG ha;have N5:=hs.EV;let g0:Gh:={ base:=w.heap.size,w0:=w,place:=λ _=>none,cJ:=(g.all w).cJ,cu:=(g.all w).cu,res:=λ _=>false };have wE:bw g0 (bU ⟨.e,0⟩) w:={
  below:=Below.refl _ _
  le:=bX _
  cJ:=λ q o u hu=>yL hs q o u hu
  cu:=λ q es c hu=>xf hs q es c hu
  live:=λ b x hb=>by cases hb
  apart:=λ b b' x x' p p' hb=>by cases hb
  res:=λ r hr=>by cases hr
  fin:=⟨0,λ n hn=>by cases hn; rfl,λ _ _=>rfl⟩ }
 have Sg:jx C g0:=⟨λ i=>aA.closed (g:=g) (g':=g0) (λ _ _ _ h=>N5.cJ _ _ _ h) (λ _ _ h=>N5.cu _ _ h) _ _ (EB i) (hG.1 i),λ i cs hi=>by
  obtain⟨k1,t,fr,k2⟩:=hG.2 i cs hi;refine⟨Nat.lt_of_lt_of_le k1 hs.le,t,fr,?_⟩;show w.heap[i]?=_;rw[hs.below.block i k1]; exact k2⟩
 have Si:aH g0 args0 vs:=aH.closed (g:=g.all w) (g':=g0) (λ _ _ _ h=>h) (λ _ _ h=>h) _ _ hargs (hw _ _ (DQ (λ x v _ hr=>De hs d x v hr) ha));refine (h (bU ⟨.e,0⟩) (λ r _=>r=.ret x) rfl g0 w vs wE Sg Si).mono ?_;rintro e w' hp;cases e with
 | panicked ch=>obtain⟨g',ad,y,v,_,_,_,_,hz⟩:=hp; cases hz
 | outgrown=>exact hp.elim
 | returned v =>
   obtain⟨g',ad,y,h1,h2,h3,hz⟩:=hp;cases hz;have vH:=h2.EV;have hle:=h1.trans vH;have yW:Below w.heap.size w w':=by
    have:=h2.below;rw[h1.base,h1.w0]at this;exact this
   let gF:Gh:={ base:=g.base,w0:=g.w0,place:=g.place,cJ:=g.cJ,cu:=g.cu,res:=g.res };have Ky:Gh.Le g gF:=⟨rfl,rfl,λ _ _ h=>h,λ b o u hu=>hu,λ b u hu=>hu,λ _ h=>h,λ _ _ _=>rfl,λ _ _=>rfl⟩;refine⟨gF,U,x,Ky,?_,aA.flat x v hx h3,hR⟩;exact {
    below:=hs.below.trans (yW.mono hs.le)
    le:=Nat.le_trans hs.le yW.size
    cJ:=λ q o u hu=>yL h2 q o u (hle.cJ _ _ _ (N5.cJ _ _ _ hu))
    cu:=λ q es c hu=>xf h2 q es c (hle.cu _ _ (N5.cu _ _ hu))
    live:=λ b l hb=>by
     obtain⟨p,k1,k2,k3⟩:=hs.live b l hb;have aN:=k3.lt;exact⟨p,k1,k2,k3.frame Ky.r (yW.block _ aN) (λ o=>rfl) rfl⟩
    apart:=hs.apart
    res:=λ r hr=>by
     obtain⟨k1,k2⟩:=hs.res r hr;exact⟨k1,by rw[yW.block _ (mG.1 k2).1]; exact k2⟩
    fin:=hs.fin }
inductive Wk:List AV->List AV->Prop
 | nil:Wk [] []
 | aY (x:AV) {l l':List AV}:Wk l l'->Wk (x::l) (x::l')
 | drop (x:AV) {l l':List AV}:Wk l l'->Wk (.any::l) (x::l')
theorem Wk.rep {g:Gh} {l l':List AV} (h:Wk l l'):∀ {vs:List Value},aH g l' vs->aH g l vs:=by
 induction h with
 | nil=>exact λ h=>h
 | aY x _ ih =>
   intro vs h;simp only[aH]at h ⊢;obtain⟨u,us,h1,h2,h3⟩:=h;exact⟨u,us,h1,h2,ih h3⟩
 | drop x _ ih =>
   intro vs h;simp only[aH]at h ⊢;obtain⟨u,us,h1,h2,h3⟩:=h;exact⟨u,us,h1,by simp only[aA],ih h3⟩
theorem Wk.da {g:Gh} {l l' r:List AV} {vs:List Value} (h:Wk l l') (hr:aH g (.da l'::r) vs):aH g (.da l::r) vs:=by
 simp only[aH,aA]at hr ⊢;obtain⟨u,us,h1,⟨aL,off,ws,h2,h3,h4⟩,h5⟩:=hr;exact⟨u,us,h1,⟨aL,off,ws,h2,h3,h.rep h4⟩,h5⟩
theorem Wk.any:∀ (l:List AV),Wk (l.map λ _=>.any) l
 | []=>.nil
 | x::l=>.drop x (Wk.any l)
end Go.Rip
namespace Go.Rip
open Go.RowKit
def ak (vt:Option (Bool×Nat)) (p:AV) (U:St):aC :=
 match vt,od U p with
 | some (true,sz),some l=>.cond (sz<=l.length) (.val (.agg (l.take sz)))
 | some (false,_),some l=>jH l
 | _,_=>.bad
def aI (vt:Option (Bool×Nat)) (p v:AV) (U:St):aC :=
 match vt,p with
 | some (_,sz),.box b off=>match U.box b with
   | some l=>.cond (v.dw=true/\(av v).length=sz/\off+sz<=l.length) (.jG (.aK []) b (.box (ay l off (av v))))
   | none=>.bad
 | _,_=>.bad
def acC (t:TypeId) (z:Option (List AV)):aC :=
 match z with
 | some l=>JF t l
 | none=>.bad
def ek (st:Option (List (Nat×Nat))) (z:Option (List AV)) (at_:Option (Nat×TypeId×Nat)) (parts:List (Nat×AV)):aC :=
 match st,z with
 | some pl,some z=>ib (λ i=>pl[i]?) parts z λ z=>.val (.agg z)
 | none,some z=>match at_ with
   | some (_,_,sz)=>ib (λ i=>some (i*sz,sz)) parts z λ z=>.val (.agg z)
   | none=>.bad
 | _,_=>.bad
def au (sl:Option (TypeId×Nat)) (z:Option (List AV)) (n:Nat) (mu:Bool) (parts:List (Nat×AV)):aC :=
 match sl with
 | some (e,sz)=>match z with
   | some z=>.cond (n*sz<=16777216) (ib (λ i=>some (i*sz,sz)) parts (bT n z) λ cs=>.cond (cs.length=n*sz) (if mu then .qx n sz e none cs else .val (.vec n .full cs)))
   | none=>.bad
 | none=>.bad
def eB (mt:Option (FK×TypeId)) (m k v:AV) (U:St):aC :=
 match mt,m with
 | some (fk,_),.mp id=>match U.mp id with
   | some (ks,vs)=>match ng fk k ks 0,rn fk k with
     | some none,true=>.jG (.aK []) id (.mp (iH k v ks vs).1 (iH k v ks vs).2)
     | some (some i),true=>.jG (.aK []) id (.mp ks (vs.set i v))
     | _,_=>.bad
   | none=>.bad
 | _,_=>.bad
def eQ (mt:Option (FK×TypeId)) (z:Option AV) (m k:AV) (ok:Bool) (U:St):aC :=
 match mt,lH U m with
 | some (fk,e),some (ks,vs)=>match z,rn fk k with
   | some z,true=>oZ fk k z ok ks vs
   | _,_=>.bad
 | _,_=>.bad
def B7 (it:Option IntKind) (is:Bool) (ss bs:Bool) (x:AV):aC :=
 match it,is,x with
 | some .i64,true,.int _ n=>.cond (wh n) (.val (.int .i64 n))
 | some k,true,.int _ n=>.val (.int k (k.wrap n))
 | none,true,.str s=>if ss=true then .val (.str s) else
   if bs=true then .cond (s.length<=4294967296) (.val (.vec s.length .iE (s.map λ b=>.int .u8 b.toNat))) else .bad
 | _,_,_=>.bad
def eD (st:Bool) (sl:Option (TypeId×Nat)) (x:AV) (lo hi:Option AV):aC :=
 match x with
 | .str s=>match st,eI 0 lo,eI s.length hi with
   | true,some l,some h=>.cond (0<=l/\l<=h/\h<=s.length) (.val (.str ((s.take h.toNat).drop l.toNat)))
   | _,_,_=>.bad
 | .vec n cap l=>match sl,eI 0 lo,eI n hi with
   | some (_,sz),some a,some b=>.cond (0<=a/\a<=b/\b<=n) (.val (.vec (b.toNat-a.toNat) (yO cap hi) ((l.take (b.toNat*sz)).drop (a.toNat*sz))))
   | _,_,_=>.bad
 | .ag=>match sl,eI 0 lo,eI 0 hi with
   | some (_,_),some a,some b=>.cond (a=0/\b=0) (.val .ag)
   | _,_,_=>.bad
 | .ms b off n j9 e=>match sl,eI 0 lo,eI n hi with
   | some (_,sz),some a,some h=>.cond (0<=a/\a<=h/\h<=n/\(a<n\/a=0)/\j9=sz) (.val (.ms b (off+a.toNat*sz) (h.toNat-a.toNat) j9 e))
   | _,_,_=>.bad
 | _=>.bad
def af (ft:Option Nat) (p:AV):aC :=
 match ft,p with
 | some o,.box b off=>.val (.box b (off+o))
 | some o,.da l=>.val (.da (l.drop o))
 | _,_=>.bad
def wu (fv:Option (Nat×Bool×Nat)) (x:AV):aC :=
 match fv,x with
 | some (o,true,n),.agg l=>.cond (o+n<=l.length) (.val (.agg ((l.drop o).take n)))
 | some (o,false,_),.agg l=>jH (l.drop o)
 | _,_=>.bad
def adX (at_:Option (Nat×TypeId×Nat)) (x i:AV):aC :=
 match at_,x,i with
 | some (n,_,sz),.da l,.int _ j=>.cond (0<=j/\j<n) (.val (.da (l.drop (j.toNat*sz))))
 | some (n,_,sz),.box b off,.int _ j=>.cond (0<=j/\j<n) (.val (.box b (off+j.toNat*sz)))
 | _,_,_=>.bad
def aE (sl:Option (TypeId×Nat)) (at_:Option (Nat×TypeId×Nat)) (x i:AV):aC :=
 match sl,x,i with
 | none,x,i=>adX at_ x i
 | some (_,sz),.vec n _ l,.int _ j=>.cond (0<=j/\j<n) (.val (.da (l.drop (j.toNat*sz))))
 | some (_,sz),.ms b off n j9 _,.int _ j=>.cond (0<=j/\j<n/\j9=sz) (.val (.box b (off+j.toNat*sz)))
 | _,_,_=>.bad
def jf (st:Bool) (at_:Option (Nat×TypeId×Nat)) (vt:Option (Bool×Nat)) (x i:AV):aC :=
 match x,i with
 | .str s,.int _ j=>if st=true then .cond (0<=j/\j<s.length) (.val (.int .u8 (s.getD j.toNat 0).toNat)) else .bad
 | .agg l,.int _ j=>match at_ with
   | some (n,e,sz)=>match vt with
     | some (false,_)=>.cond (0<=j/\j<n) (jH (l.drop (j.toNat*sz)))
     | some (true,k)=>.cond (0<=j/\j<n/\k=sz/\j.toNat*sz+sz<=l.length) (.val (.agg ((l.drop (j.toNat*sz)).take sz)))
     | none=>.bad
   | none=>.bad
 | _,_=>.bad
def zj (b:Bool) (t:TypeId) (x:AV):aC:=if b=true then .val (.iface t x) else .bad
def vU (mt:Option (FK×TypeId)) (m:AV):aC :=
 match mt,m with
 | some _,.gJ ks vs=>.new .it none (.iter (ks.zip vs) none)
 | _,_=>.bad
def xF (z:Option AV) (x:AV) (t:TypeId) (ok:Bool):aC :=
 match z,x with
 | some z,.iface u v=>if u=t then .val (if ok then .aK [v,.bool true] else v) else if ok then .val (.aK [z,.bool false]) else .bad
 | some z,.dE=>if ok then .val (.aK [z,.bool false]) else .bad
 | _,_=>.bad
def E0 (sl:Option (TypeId×Nat)) (z:Option (List AV)) (mu:Bool) (l c:AV):aC :=
 match sl,l,c with
 | some (e,sz),.int _ l,.int _ c=>match z with
   | some z=>.cond (0<=l/\l=c/\c<=65536) (if mu then .qx l.toNat sz e none (bT l.toNat z) else .pv l.toNat (bT l.toNat z) none ⟨l.toNat,e,sz⟩)
   | none=>.bad
 | _,_,_=>.bad
def Em (sl:Option (TypeId×Nat)) (z:Option (List AV)) (x:AV) (U:St):aC :=
 match sl,x with
 | some (e,sz),.ms b off n j9 _=>match U.box b,z with
   | some l,some z=>.cond (j9=sz/\off+n*sz<=l.length) (.jG (.aK []) b (.box (ay l off (bT n z))))
   | _,_=>.bad
 | _,_=>.bad
def cr (lt:Option Bool) (x:AV):aC :=
 match lt,x with
 | some true,.str s=>.val (.int .i64 s.length)
 | some false,.vec n _ _=>.val (.int .i64 n)
 | some false,.ms _ _ n _ _=>.val (.int .i64 n)
 | some false,.ag=>.val (.int .i64 0)
 | _,_=>.bad
def dB (ap:Option (TypeId×Nat)) (mu:Bool) (s y:AV) (U:St):aC :=
 match ap,pa U y with
 | some (e,sz),some (m,l2) =>
   .cond (l2.length=m*sz) (match s with
   | .ag=>if m=0 then .val .ag else .cond (m<=4294967296) (if mu then .qx m sz e none l2 else .pv m l2 none ⟨m,e,sz⟩)
   | .vec n .full l=>if m=0 then .val s else .cond (l.length=n*sz/\n+m<=4294967296) (.pv (n+m) (l++l2) none ⟨n+m,e,sz⟩)
   | .vec n (.own τ) l=>.cond (U.tok τ=some ⟨n,e,sz⟩/\l.length=n*sz/\n+m<=4294967296) (.pv (n+m) (l++l2) (some τ) ⟨n+m,e,sz⟩)
   | .ms b off n j9 e'=>match U.box b with
     | some l=>.cond (off=0/\j9=sz/\e'=e/\n*sz<=l.length/\n+m<=4294967296) (.qx (n+m) sz e (some b) (l.take (n*sz)++l2))
     | none=>.bad
   | _=>.bad)
 | _,_=>.bad
structure BT where
 b:Bool
 i:Bool
 p:Bool
 f:Option (List FK)
 s:Bool
def ad5 (P:Program) (t:TypeId):BT:=⟨yi P t,mE P t,oq P t,PI P t,rG P t⟩
def Zk (f:Option (List FK)) (a b:List AV):Option Bool :=
 match f with
 | some ks=>qF ks a b
 | none=>none
def aw (op:BinOp) (bt:BT) (lit:Bool) (x y:AV):aC :=
 match op,x,y with
 | .eql,.dE,.dE=>if bt.i=true/\lit=true then .val (.bool true) else .bad
 | .neq,.dE,.dE=>if bt.i=true/\lit=true then .val (.bool false) else .bad
 | .add,.int k a,.int k' b=>if k=k' then jS k (a+b) else .bad
 | .sub,.int k a,.int k' b=>if k=k' then jS k (a-b) else .bad
 | .mul,.int k a,.int k' b=>if k=k' then jS k (a*b) else .bad
 | .quo,.int k a,.int k' b=>if k=k' then .cond (b≠0) (jS k (a.tdiv b)) else .bad
 | .rem,.int k a,.int k' b=>if k=k' then .cond (b≠0) (.val (.int k (a.tmod b))) else .bad
 | .and,.int k a,.int k' b=>if k=k' then .val (.int k (k.wrap (BitVec.ofInt k.bits a &&& BitVec.ofInt k.bits b).toNat)) else .bad
 | .or,.int k a,.int k' b=>if k=k' then .val (.int k (k.wrap (BitVec.ofInt k.bits a ||| BitVec.ofInt k.bits b).toNat)) else .bad
 | .eql,.int k a,.int k' b=>if k=k' then .val (.bool (a==b)) else .bad
 | .neq,.int k a,.int k' b=>if k=k' then .val (.bool (a != b)) else .bad
 | .lss,.int k a,.int k' b=>if k=k' then .val (.bool (decide (a<b))) else .bad
 | .leq,.int k a,.int k' b=>if k=k' then .val (.bool (decide (a<=b))) else .bad
 | .gtr,.int k a,.int k' b=>if k=k' then .val (.bool (decide (a > b))) else .bad
 | .geq,.int k a,.int k' b=>if k=k' then .val (.bool (decide (a>=b))) else .bad
 | .eql,.str a,.str b=>.val (.bool (a==b))
 | .neq,.str a,.str b=>.val (.bool (a != b))
 | .add,.str a,.str b=>.cond (a.length+b.length<=4294967296) (.val (.str (a++b)))
 | .eql,.bool a,.bool b=>if bt.b=true then .val (.bool (a==b)) else .bad
 | .neq,.bool a,.bool b=>if bt.b=true then .val (.bool (a != b)) else .bad
 | .eql,.agg a,.agg b=>xH .bool (Zk bt.f a b)
 | .neq,.agg a,.agg b=>xH (λ r=>.bool (!r)) (Zk bt.f a b)
 | .eql,.iface _ _,.dE=>if bt.i=true then .val (.bool false) else .bad
 | .neq,.iface _ _,.dE=>if bt.i=true then .val (.bool true) else .bad
 | .eql,.a8,.a8=>if bt.p=true then .val (.bool true) else .bad
 | .eql,.box _ _,.a8=>if bt.p=true then .val (.bool false) else .bad
 | .neq,.a8,.a8=>if bt.p=true then .val (.bool false) else .bad
 | .neq,.box _ _,.a8=>if bt.p=true then .val (.bool true) else .bad
 | .eql,.da _,.a8=>if bt.p=true then .val (.bool false) else .bad
 | .neq,.da _,.a8=>if bt.p=true then .val (.bool true) else .bad
 | .eql,.ag,.ag=>if bt.s=true then .val (.bool true) else .bad
 | .eql,.vec _ _ _,.ag=>if bt.s=true then .val (.bool false) else .bad
 | .eql,.ms _ _ _ _ _,.ag=>if bt.s=true then .val (.bool false) else .bad
 | _,_,_=>.bad
theorem aa5 (P:Program) (op:BinOp) (t:TypeId) (lit:Bool) (x y:AV):aw op (ad5 P t) lit x y=JN P op t lit x y:=by
 unfold aw JN Pn;cases op<;>cases x<;>cases y<;>rfl
def yH (P:Program) (t:TypeId):Option (List AV):=match gh P t with
 | some (e,_)=>rA P e
 | none=>none
def Ze (P:Program) (t:TypeId):Option (Bool×Nat):=match xg P t with
 | some (_,e,_)=>pJ P e
 | none=>none
def Wv (P:Program) (t:TypeId):Option AV:=match sH P t with
 | some (_,e)=>zeroV P e
 | none=>none
def Wz (gt:Option (TypeId×Nat×List AV)) (ap:Option (TypeId×Nat)) (mu:Bool) (s y:AV) (U:St):aC :=
 match gt with
 | some q=>Jc q mu s y
 | none=>dB ap mu s y U
def Pu (C:de) (mu:Bool) (c:Call) (ρ:Env) (U:St):aC :=
 match c.callee,c.argTypes.toList,c.args.toList with
 | .value (.func f),_,args=>if fC C.P f=true then .enter f (args.map (ρ.ev C)) else .bad
 | .value f,_,args=>jz C.P (ρ.ev C f) (args.map (ρ.ev C))
 | .builtin .len,[t],[x]=>cr (Qm C.P t) (ρ.ev C x)
 | .builtin .append,[t,u],[s,y]=>Wz (Ev C.P t u) (Ph C.P t u) mu (ρ.ev C s) (ρ.ev C y) U
 | .builtin .cap,[t],[x]=>JU (gh C.P t) (ρ.ev C x)
 | .builtin .min,_,[x,y]=>Bh (ρ.ev C x) (ρ.ev C y)
 | .builtin .max,_,[x,y]=>DH (ρ.ev C x) (ρ.ev C y)
 | .builtin .clear,[t],[x]=>Em (gh C.P t) (yH C.P t) (ρ.ev C x) U
 | _,_,_=>.bad
def uQ (C:de) (mu:Bool) (o:Op) (ρ:Env) (U:St):aC :=
 match o with
 | .move x|.assign x=>.val (ρ.ev C x)
 | .pick c a b=>bN (ρ.ev C c) (ρ.ev C a) (ρ.ev C b)
 | .alloc t=>acC t (rA C.P t)
 | .box _ x=>fL (ρ.ev C x)
 | .build t parts=>ek (Cy C.P t) (rA C.P t) (xg C.P t) (og C ρ parts)
 | .buildSlice t n parts=>au (gh C.P t) (yH C.P t) n mu (og C ρ parts)
 | .insert t m k v|.mapUpdate t m k v=>eB (sH C.P t) (ρ.ev C m) (ρ.ev C k) (ρ.ev C v) U
 | .load t a=>ak (pJ C.P t) (ρ.ev C a) U
 | .store t a v=>aI (pJ C.P t) (ρ.ev C a) (ρ.ev C v) U
 | .nilCheck x=>aZ (ρ.ev C x)
 | .binOp op t x y _=>aw op (ad5 C.P t) (isLit x||isLit y) (ρ.ev C x) (ρ.ev C y)
 | .unOp op _ x=>lj op (ρ.ev C x)
 | .convert s d x=>B7 (Qe C.P d) (C.P.underlying s).isSome (pq C.P d&&pq C.P s) (y5 C.P d&&pq C.P s) (ρ.ev C x)
 | .makeInterface t x=>zj (Bk C.P t) t (ρ.ev C x)
 | .makeFunc fn first cap=>.val (.func fn (first.toList.map (ρ.ev C)) (cap.toList.map (ρ.ev C)))
 | .makeMap _ none=>.wP
 | .slice t x lo hi none=>eD (pq C.P t) (gh C.P t) (ρ.ev C x) (lo.map (ρ.ev C)) (hi.map (ρ.ev C))
 | .fieldAddr s x f=>af (AJ C.P s f) (ρ.ev C x)
 | .field s x f=>wu (Ca C.P s f) (ρ.ev C x)
 | .indexAddr t x i=>aE (gh C.P t) (xg C.P t) (ρ.ev C x) (ρ.ev C i)
 | .index t x i=>jf (pq C.P t) (xg C.P t) (Ze C.P t) (ρ.ev C x) (ρ.ev C i)
 | .lookup t m k ok=>eQ (sH C.P t) (Wv C.P t) (ρ.ev C m) (ρ.ev C k) ok U
 | .extract t i=>aU (ρ.ev C t) i
 | .panic x=>vP (ρ.ev C x)
 | .range t m=>vU (sH C.P t) (ρ.ev C m)
 | .typeAssert x _ t ok=>xF (B0 C.P t) (ρ.ev C x) t ok
 | .makeSlice t l c=>E0 (gh C.P t) (yH C.P t) mu (ρ.ev C l) (ρ.ev C c)
 | .next i false=>tY (ρ.ev C i) U
 | .entry i=>oe (ρ.ev C i) U
 | .call c=>Pu C mu c ρ U
 | _=>.bad
theorem WH (C:de) (mu:Bool) (c:Call) (ρ:Env) (U:St):Pu C mu c ρ U=B6 C mu c ρ U:=by
 unfold Pu B6;obtain⟨callee,⟨args⟩,⟨tys⟩⟩:=c;cases callee with
 | value f =>
   cases f<;>simp only[jz,Env.ev,eH,gx]
 | invoke r m=>rfl
 | builtin b =>
   cases b
   case clear =>
    dsimp only;rcases tys with _|⟨t,_|⟨u,_|_⟩⟩<;>rcases args with _|⟨x,_|⟨y,_|_⟩⟩<;>try rfl
    simp only[Em,AD,yH];generalize ρ.ev C x=y;cases h:gh C.P t with
    | none=>rfl
    | some es=>(cases es; cases y<;>rfl)
   all_goals first|rfl|(dsimp only; rcases tys with _|⟨t,_|⟨u,_|_⟩⟩<;>rcases args with _|⟨x,_|⟨y,_|_⟩⟩<;>rfl)
theorem rh (C:de) (mu:Bool) (o:Op) (ρ:Env) (U:St):uQ C mu o ρ U=kY C mu o ρ U:=by
 cases o with
 | binOp op t x y yt=>exact aa5 _ _ _ _ _ _
 | call c=>exact WH _ _ _ _ _
 | buildSlice t n parts =>
   simp only[uQ,kY,au,tT,yH];cases h:gh C.P t with
   | none=>rfl
   | some es=>(cases es; rfl)
 | index t x i =>
   simp only[uQ,kY,jf,EM,Ze];generalize ρ.ev C x=y;generalize ρ.ev C i=z;cases h:xg C.P t with
   | none=>cases y<;>rfl
   | some es=>(cases es; cases y<;>cases z<;>rfl)
 | lookup t m k ok =>
   simp only[uQ,kY,eQ,yj,Wv];generalize lH U (ρ.ev C m)=y;cases h:sH C.P t with
   | none=>rfl
   | some es=>(cases es; cases y<;>rfl)
 | makeSlice t l c =>
   simp only[uQ,kY,E0,u3,yH];generalize ρ.ev C l=y;generalize ρ.ev C c=z;cases h:gh C.P t with
   | none=>rfl
   | some es=>(cases es; cases y<;>cases z<;>rfl)
 | convert s d x =>
   simp only[uQ,kY,B7,Jb,cb];rfl
 | makeMap t r=>cases r<;>rfl
 | slice t x lo hi m=>cases m<;>rfl
 | next i b=>cases b<;>rfl
 | _=>rfl
end Go.Rip
namespace Go.Rip
open Go.RowKit
def Fn:Nat->Type
 | 0=>St->Prop
 | n+1=>AV->Fn n
namespace Fn
def app:(n:Nat)->Fn n->List AV->St->Prop
 | 0,f,_,U=>f U
 | n+1,f,x::xs,U=>app n (f x) xs U
 | n+1,f,[],U=>app n (f .any) [] U
def lam:(n:Nat)->(List AV->St->Prop)->Fn n
 | 0,F=>λ U=>F [] U
 | n+1,F=>λ x=>lam n (λ xs U=>F (x::xs) U)
theorem rP:∀ (n:Nat) (F:List AV->St->Prop) (xs:List AV) (U:St),xs.length=n->app n (lam n F) xs U=F xs U
 | 0,F,[],U,_=>rfl
 | n+1,F,x::xs,U,h=>rP n (λ xs U=>F (x::xs) U) xs U (by simpa using h)
 | 0,F,_::_,U,h=>by simp at h
 | n+1,F,[],U,h=>by simp at h
def imp:(n:Nat)->Fn n->Fn n->Prop
 | 0,f,g=>∀ U,f U->g U
 | n+1,f,g=>∀ x,imp n (f x) (g x)
theorem Oh:∀ {n:Nat} {f g:Fn n},imp n f g->∀ (xs:List AV) (U:St),xs.length=n->app n f xs U->app n g xs U
 | 0,f,g,h,xs,U,_,hf=>h U hf
 | n+1,f,g,h,x::xs,U,hl,hf=>Oh (h x) xs U (by simpa using hl) hf
 | n+1,f,g,h,[],U,hl,hf=>by simp at hl
theorem Nt:∀ {n:Nat} {f g:Fn n},(∀ (xs:List AV) (U:St),xs.length=n->app n f xs U->app n g xs U)->imp n f g
 | 0,f,g,h=>λ U hf=>h [] U rfl hf
 | n+1,f,g,h=>λ x=>Nt λ xs U hl hf=>h (x::xs) U (by simpa using hl) hf
end Fn
def EX:List Nat->List AV->Nat->AV
 | s::ss,x::xs,t=>cond (Nat.beq t s) x (EX ss xs t)
 | _,_,_=>.any
def F9 (live:List Nat) (vs:List AV):Env:=⟨EX live vs⟩
theorem H0 (f:Nat->AV) (t:Nat):∀ live:List Nat,EX live (live.map f) t=f t\/EX live (live.map f) t=.any
 | []=>.inr rfl
 | s::ss=>by
   simp only[dH,EX];cases h:Nat.beq t s with
   | true=>have:=fP h; subst this; exact .inl rfl
   | false=>exact H0 f t ss
theorem Hh (ρ:Env) (live:List Nat) (t:Nat):(F9 live (live.map ρ.get)).get t=ρ.get t\/(F9 live (live.map ρ.get)).get t=.any:=H0 ρ.get t live
section
variable {C:de} {nt:Nat} {ro:Ro} {U:St} {ρ:Env}
theorem bL.Pa {c:Code} {Q:Ex->Env->St->Prop} {eP:Env} (h:bL C nt ro c Q eP U) (hw:∀ t,eP.get t=ρ.get t\/eP.get t=.any):bL C nt ro c Q ρ U :=
 λ g w a fr h1 h2 h3 h4 h5=>h g w a fr h1 h2 (λ t=>by
  rcases hw t with e|e
  . rw[e]; exact h3 t
  . rw[e]; simp only[aA]) h4 h5
end
structure Qx where
 n:Env->St->Prop
 e:Nat->Env->St->Prop
 r:Env->St->Prop
 p:AV->St->Prop
def Qx.q (Q:Qx):Ex->Env->St->Prop
 | .normal,ρ,U=>Q.n ρ U
 | .exit i,ρ,U=>Q.e i ρ U
 | .ret,ρ,U=>Q.r ρ U
 | .panic x,_,U=>Q.p x U
def agX (ops:Array Oper) (j:Nat):Option Nat:=(ops[j]?).bind (·.dst)
def aM (v:AV) (want:Bool):AV:=match v with
 | .bool b=>.bool (b==want)
 | .aK []=>.bool false
 | _=>.any
def Kh (ops:Array Oper) (ρ:Env) (jw:Nat×Bool):AV:=match agX ops jw.1 with
 | some d=>aM (ρ.get d) jw.2
 | none=>.any
theorem Ki (ops:Array Oper) (ρ:Env) (jw:Nat×Bool):jm ops ρ (some jw)=Kh ops ρ jw:=rfl
def GL (b:Bool) (v:AV):AV:=match b with
 | true=>v
 | false=>.aK []
def fJ (C:de) (b:Bool):aC->(AV->Prop)->Prop
 | .val v,k=>k (GL b v)
 | @aC.cond p _ r,k=>(b=true->p)/\fJ C b r k
 | .enter f args,k=>∃ v,(b=true->Pure C f args v)/\k (GL b v)
 | _,k=>b=false/\k (.aK [])
def ao (C:de) (gv:AV) (r:aC) (k:AV->Prop):Prop:=match gv with
 | .bool b=>fJ C b r k
 | _=>False
theorem Da {C:de}:∀ (r:aC) {k:AV->Prop},fJ C true r k->∃ v,r.yv C v/\k v
 | .val v,k,h=>⟨v,rfl,h⟩
 | @aC.cond _ _ r,k,h=>let ⟨v,h1,h2⟩:=Da r h.2; ⟨v,⟨h.1 rfl,h1⟩,h2⟩
 | .enter _ _,k,h=>let ⟨v,h1,h2⟩:=h; ⟨v,h1 rfl,h2⟩
 | .jG _ _ _,_,h=>by cases h.1
 | .new _ _ _,_,h=>by cases h.1
 | .nf _ _,_,h=>by cases h.1
 | .yield _ _,_,h=>by cases h.1
 | .panic _,_,h=>by cases h.1
 | .bad,_,h=>by cases h.1
theorem Bx {C:de}:∀ (r:aC) {k:AV->Prop},fJ C false r k->k (.aK [])
 | .val v,k,h=>h
 | @aC.cond _ _ r,k,h=>Bx r h.2
 | .enter _ _,k,h=>let ⟨v,h1,h2⟩:=h; h2
 | .jG _ _ _,_,h=>h.2
 | .new _ _ _,_,h=>h.2
 | .nf _ _,_,h=>h.2
 | .yield _ _,_,h=>h.2
 | .panic _,_,h=>h.2
 | .bad,_,h=>h.2
theorem By {C:de} {gv:AV} {r:aC} {k:AV->Prop} (h:ao C gv r k):(gv=.bool true/\∃ v,r.yv C v/\k v)\/(gv=.bool false/\k (.aK [])):=by
 cases gv<;>simp only[ao]at h
 rename_i b;cases b
 . exact .inr ⟨rfl,Bx r h⟩
 . exact .inl ⟨rfl,Da r h⟩
def afc (pf:List Nat) (o:Op):Bool:=match o with
 | .call c=>match c.callee with
   | .value (.func f)=>pf.any λ g=>Nat.beq g f
   | .value _=>false
   | _=>quiet o
 | o=>quiet o
def Gl (C:de) (o:Op) (ρ:Env):Option AV:=match o with
 | .move x|.assign x=>some (ρ.ev C x)
 | .makeFunc fn first cap=>some (.func fn (first.toList.map (ρ.ev C)) (cap.toList.map (ρ.ev C)))
 | _=>none
theorem Ce {C:de} {o:Op} {ρ:Env} {v:AV} (h:Gl C o ρ=some v) (mu:Bool) (U:St):uQ C mu o ρ U=.val v:=by
 unfold Gl at h;split at h
 . cases h; rfl
 . cases h; rfl
 . cases h; rfl
 . cases h
def xv (C:de) (mu pf:List Nat) (ops:Array Oper):List Oper->Env->St->(Env->St->Prop)->(AV->St->Prop)->Prop
 | [],ρ,U,K,_=>K ρ U
 | o::rest,ρ,U,K,Kp=>match o.guard with
   | none=>match Gl C o.op ρ with
     | some v=>xv C mu pf ops rest (ρ.fj o.dst v) U K Kp
     | none=>(uQ C (pH mu o) o.op ρ U).wp C U (λ v U=>xv C mu pf ops rest (ρ.fj o.dst v) U K Kp) Kp
   | some jw=>match afc pf o.op with
     | true=>ao C (Kh ops ρ jw) (uQ C (pH mu o) o.op ρ U) (λ v=>xv C mu pf ops rest (ρ.fj o.dst v) U K Kp)
     | false=>ax (Kh ops ρ jw) ((uQ C (pH mu o) o.op ρ U).wp C U (λ v U=>xv C mu pf ops rest (ρ.fj o.dst v) U K Kp) Kp)
       (xv C mu pf ops rest (ρ.fj o.dst (.aK [])) U K Kp)
theorem yl {C:de} {mu pf:List Nat} {ops:Array Oper} {K:Env->St->Prop} {Kp:AV->St->Prop}:∀ (l:List Oper) (ρ:Env) (U:St),
 xv C mu pf ops l ρ U K Kp->qL C mu ops l ρ U K Kp
 | [],_,_,h=>h
 | o::rest,ρ,U,h=>by
   have step:∀ {r:aC},r.wp C U (λ v U=>xv C mu pf ops rest (ρ.fj o.dst v) U K Kp) Kp ->
    r.wp C U (λ v ad=>qL C mu ops rest (ρ.fj o.dst v) ad K Kp) Kp:=λ hr=>aC.wp_mono (λ v ad hv=>yl rest _ _ hv) _ hr
   simp only[xv]at h;simp only[qL];show ax (jm ops ρ o.guard) ((kY C (pH mu o) o.op ρ U).wp C U (λ v ad=>qL C mu ops rest (ρ.fj o.dst v) ad K Kp) Kp) (qL C mu ops rest (ρ.fj o.dst (.aK [])) U K Kp);rw[<- rh];cases hg:o.guard with
   | none =>
     rw[hg]at h;simp only at h;refine⟨λ _=>?_,λ hf=>(by cases hf)⟩;split at h
     . rename_i v hv;rw[Ce hv];exact yl rest _ _ h
     . exact step h
   | some jw =>
     rw[hg]at h;simp only at h;rw[Ki];split at h
     . rcases By h with ⟨hb,v,hv,hk⟩|⟨hb,hk⟩
       . rw[hb];refine⟨λ _=>?_,λ hf=>(by cases hf)⟩;exact aC.Rk _ hv (yl rest _ _ hk)
       . rw[hb];exact⟨λ hf=>(by cases hf),λ _=>yl rest _ _ hk⟩
     . cases hv:Kh ops ρ jw<;>rw[hv]at h<;>simp only[ax]at h ⊢
       exact⟨λ e=>step (h.1 e),λ e=>yl rest _ _ (h.2 e)⟩
def az (C:de):aC->(AV->Prop)->Prop
 | .val v,k=>k v
 | @aC.cond p _ r,k=>p/\az C r k
 | .enter f args,k=>∃ v,Pure C f args v/\k v
 | _,_=>False
theorem Iq {C:de}:∀ (r:aC) {k:AV->Prop},az C r k->∃ v,r.yv C v/\k v
 | .val v,k,h=>⟨v,rfl,h⟩
 | @aC.cond _ _ r,k,h=>let ⟨v,h1,h2⟩:=Iq r h.2; ⟨v,⟨h.1,h1⟩,h2⟩
 | .enter _ _,k,h=>h
 | .jG _ _ _,_,h=>h.elim
 | .new _ _ _,_,h=>h.elim
 | .nf _ _,_,h=>h.elim
 | .yield _ _,_,h=>h.elim
 | .panic _,_,h=>h.elim
 | .bad,_,h=>h.elim
def EA (C:de) (ρ:Env) (o:Op):List Nat:=o.operands.toList.flatMap λ x=>eE (ρ.ev C x)
def rdW (b:Bool) (P k:Prop):Prop:=match b with
 | true=>P/\k
 | false=>k
def ixW (b:Bool) (P k:Prop):Prop:=match b with
 | true=>k
 | false=>P/\k
theorem S6 {ops:Array Oper} {i:Nat} {I:St->Prop} {U:St} {k:Prop} (h:ixW (uf ops i) (I U) k):Ix ops I i U/\k:=by
 unfold Ix;cases ha:uf ops i<;>rw[ha]at h<;>simp only[ixW]at h
 . exact⟨.inr h.1,h.2⟩
 . exact⟨.inl (by unfold pS; rw[ha]; rfl),h⟩
def Bz (C:de) (ops:Array Oper) (ρ:Env) (g:Option (Nat×Bool)) (i:Option AV) (r:aC) (k:AV->Prop):Prop:=match g with
 | none=>match i with
   | some v=>k v
   | none=>az C r k
 | some jw=>ao C (Kh ops ρ jw) r k
def gW (ops:Array Oper) (ρ:Env) (g:Option (Nat×Bool)) (A B:Prop):Prop:=match g with
 | none=>A
 | some jw=>ax (Kh ops ρ jw) A B
def qy (C:de) (mu:List Nat) (ops:Array Oper) (ar:St) (K:Env->St->Prop) (Kp:AV->St->Prop) (B:List Nat):List (Bool×Nat)->Env->St->Prop
 | [],ρ,U=>K ρ U
 | (true,i)::r,ρ,U=>match ops[i]? with
   | none=>False
   | some o=>match quiet o.op with
     | false=>False
     | true=>rdW (qA o.op) (∀ b∈EA C ρ o.op,b∈B) (Bz C ops ρ o.guard (Gl C o.op ρ) (uQ C (pH mu o) o.op ρ ar) λ v=>qy C mu ops ar K Kp B r (ρ.fj o.dst v) U)
 | (false,i)::r,ρ,U=>match ops[i]? with
   | none=>False
   | some o=>gW ops ρ o.guard ((uQ C (pH mu o) o.op ρ U).wp C U (λ v U=>ixW (uf ops i) (df B ar U) (qy C mu ops ar K Kp B r (ρ.fj o.dst v) U)) Kp)
      (qy C mu ops ar K Kp B r (ρ.fj o.dst (.aK [])) U)
def Jo (C:de) (mu:List Nat) (ops:Array Oper) (ar:St) (K:Env->St->Prop) (Kp:AV->St->Prop):List (Bool×Nat)->List Nat->Env->St->Prop
 | [],_,ρ,U=>K ρ U
 | (true,i)::r,B,ρ,U=>match ops[i]? with
   | none=>False
   | some o=>match quiet o.op with
     | false=>False
     | true=>Bz C ops ρ o.guard (Gl C o.op ρ) (uQ C (pH mu o) o.op ρ ar) λ v=>Jo C mu ops ar K Kp r (match qA o.op with|true=>EA C ρ o.op++B|false=>B) (ρ.fj o.dst v) U
 | (false,i)::r,B,ρ,U=>qy C mu ops ar K Kp B ((false,i)::r) ρ U
def zr (C:de) (mu:List Nat) (ops:Array Oper) (ar:St) (K:Env->St->Prop) (Kp:AV->St->Prop):List (Bool×Nat)->Env->St->Prop
 | [],ρ,U=>K ρ U
 | (true,i)::r,ρ,U=>match ops[i]? with
   | none=>False
   | some o=>match quiet o.op with
     | false=>False
     | true=>Bz C ops ρ o.guard (Gl C o.op ρ) (uQ C (pH mu o) o.op ρ ar) λ v=>zr C mu ops ar K Kp r (ρ.fj o.dst v) U
 | (false,i)::r,ρ,U=>match pS ops i,ops[i]? with
   | true,some o=>gW ops ρ o.guard ((uQ C (pH mu o) o.op ρ U).wp C U (λ v U=>zr C mu ops ar K Kp r (ρ.fj o.dst v) U) Kp) (zr C mu ops ar K Kp r (ρ.fj o.dst (.aK [])) U)
   | _,_=>False
section
variable {C:de} {mu:List Nat} {ops:Array Oper} {ar:St} {K:Env->St->Prop} {Kp:AV->St->Prop}
theorem Dx {ρ:Env} {g:Option (Nat×Bool)} {A B:Prop} (h:gW ops ρ g A B):(jm ops ρ g=.bool true/\A)\/(jm ops ρ g=.bool false/\B):=by
 unfold gW at h;cases g with
 | none=>exact .inl ⟨rfl,h⟩
 | some jw =>
   simp only at h;rw[Ki];cases hv:Kh ops ρ jw<;>rw[hv]at h<;>simp only[ax]at h
   rename_i b;cases b
   . exact .inr ⟨rfl,h.2 rfl⟩
   . exact .inl ⟨rfl,h.1 rfl⟩
theorem vS {ρ:Env} {g:Option (Nat×Bool)} {i:Option AV} {r:aC} {k:AV->Prop} (hi:∀ v,i=some v->r=.val v) (h:Bz C ops ρ g i r k):(jm ops ρ g=.bool true/\∃ v,r.yv C v/\k v)\/(jm ops ρ g=.bool false/\k (.aK [])):=by
 unfold Bz at h;cases g with
 | none =>
   cases i with
   | none=>exact .inl ⟨rfl,Iq r h⟩
   | some v=>rw[hi v rfl]; exact .inl ⟨rfl,v,rfl,h⟩
 | some jw=>simp only at h; rw[Ki]; exact By h
theorem yX {ρ:Env} {o:Op} {x:Operand} (hx:x∈o.operands.toList) {b:Nat} (hb:b∈eE (ρ.ev C x)):b∈EA C ρ o:=List.mem_flatMap.2 ⟨x,hx,hb⟩
theorem sc (B:List Nat):∀ (l:List (Bool×Nat)) (ρ:Env) (U:St),qy C mu ops ar K Kp B l ρ U->nu C mu ops B ar K Kp l ρ U
 | [],_,_,h=>h
 | (true,i)::r,ρ,U,h=>by
   simp only[qy]at h;split at h
   . exact h.elim
   . rename_i o ho;split at h
     . exact h.elim
     . rename_i hq;have key:∀ {P k:Prop},rdW (qA o.op) P k->(qA o.op=true->P)/\k:=λ {P k} h=>by
        cases hr:qA o.op<;>rw[hr]at h<;>simp only[rdW]at h
        . exact⟨λ h=>(by cases h),h⟩
        . exact⟨λ _=>h.1,h.2⟩
       obtain⟨hB,h⟩:=key h;rcases vS (λ v hv=>Ce hv _ _) h with ⟨hg,v,hv,hk⟩|⟨hg,hk⟩
       . rw[rh]at hv;exact⟨o,v,ho,.inl ⟨hg,hq,λ hr x hx b hb=>hB hr b (yX hx hb),hv⟩,sc B r _ _ hk⟩
       . exact⟨o,.aK [],ho,.inr ⟨hg,rfl⟩,sc B r _ _ hk⟩
 | (false,i)::r,ρ,U,h=>by
   simp only[qy]at h;simp only[nu,mR];split at h
   . exact h.elim
   . rename_i o ho;rw[ho];simp only;rw[rh]at h;rcases Dx h with ⟨hg,h⟩|⟨hg,h⟩
     . rw[hg];exact⟨λ _=>aC.wp_mono (λ v U hv=>⟨(S6 (I:=df B ar) hv).1,sc B r _ _ (S6 (I:=df B ar) hv).2⟩) _ h,λ h=>by cases h⟩
     . rw[hg];exact⟨λ h=>(by cases h),λ _=>sc B r _ _ h⟩
theorem GD:∀ (l:List (Bool×Nat)) (B:List Nat) (ρ:Env) (U:St),Jo C mu ops ar K Kp l B ρ U->∃ B',(∀ b∈B,b∈B')/\nu C mu ops B' ar K Kp l ρ U
 | [],B,_,_,h=>⟨B,λ _ h=>h,h⟩
 | (true,i)::r,B,ρ,U,h=>by
   simp only[Jo]at h;split at h
   . exact h.elim
   . rename_i o ho;split at h
     . exact h.elim
     . rename_i hq;rcases vS (λ v hv=>Ce hv _ _) h with ⟨hg,v,hv,hk⟩|⟨hg,hk⟩
       . rw[rh]at hv;obtain⟨B',hB,hA⟩:=GD r _ _ _ hk;refine⟨B',λ b hb=>hB b ?_,o,v,ho,.inl ⟨hg,hq,λ hr x hx b hb=>hB b ?_,hv⟩,hA⟩
         . split
           . exact List.mem_append_right _ hb
           . exact hb
         . rw[hr]; exact List.mem_append_left _ (yX hx hb)
       . obtain⟨B',hB,hA⟩:=GD r _ _ _ hk;refine⟨B',λ b hb=>hB b ?_,o,.aK [],ho,.inr ⟨hg,rfl⟩,hA⟩;split
         . exact List.mem_append_right _ hb
         . exact hb
 | (false,i)::r,B,ρ,U,h=>⟨B,λ _ h=>h,sc B _ _ _ h⟩
end
def Jk:List (Bool×Nat)->Bool
 | []=>true
 | (true,_)::r=>Jk r
 | (false,_)::r=>r.isEmpty
theorem GC {C:de} {mu:List Nat} {ops:Array Oper} {ar:St} {K:Env->St->Prop} {Kp:AV->St->Prop}:∀ (l:List (Bool×Nat)) (B:List Nat) (ρ:Env) (U:St),Jk l=true->zr C mu ops ar K Kp l ρ U->∃ B',(∀ b∈B,b∈B')/\nu C mu ops B' ar K Kp l ρ U
 | [],B,_,_,_,h=>⟨B,λ _ h=>h,h⟩
 | (true,i)::r,B,ρ,U,hl,h=>by
   simp only[zr]at h;split at h
   . exact h.elim
   . rename_i o ho;split at h
     . exact h.elim
     . rename_i hq;rcases vS (λ v hv=>Ce hv _ _) h with ⟨hg,v,hv,hk⟩|⟨hg,hk⟩
       . rw[rh]at hv;obtain⟨B',hB,hA⟩:=GC r (EA C ρ o.op++B) _ _ hl hk;exact⟨B',λ b hb=>hB b (List.mem_append_right _ hb),o,v,ho,.inl ⟨hg,hq,λ hr x hx b hb=>hB b (List.mem_append_left _ (yX hx hb)),hv⟩,hA⟩
       . obtain⟨B',hB,hA⟩:=GC r B _ _ hl hk;exact⟨B',hB,o,.aK [],ho,.inr ⟨hg,rfl⟩,hA⟩
 | (false,i)::r,B,ρ,U,hl,h=>by
   obtain rfl:r=[]:=by simpa [Jk] using hl
   refine⟨B,λ _ h=>h,?_⟩;simp only[zr]at h;simp only[nu,mR];split at h
   . rename_i o N5 ho;rw[ho];simp only;rw[rh]at h;rcases Dx h with ⟨hg,h⟩|⟨hg,h⟩
     . rw[hg];exact⟨λ _=>aC.wp_mono (λ v U hv=>⟨.inl N5,hv⟩) _ h,λ h=>by cases h⟩
     . rw[hg];exact⟨λ h=>(by cases h),λ _=>h⟩
   . exact h.elim
def Bp (C:de) (mu:List Nat) (ops:Array Oper) (ar:St) (Kp:AV->St->Prop) (B:List Nat) (o:Oper) (K:Env->St->Prop) (ρ:Env) (U:St):Prop :=
 gW ops ρ o.guard ((uQ C (pH mu o) o.op ρ U).wp C U (λ v U=>df B ar U/\K (ρ.fj o.dst v) U) Kp) (K (ρ.fj o.dst (.aK [])) U)
def Q3 (C:de) (mu:List Nat) (ops:Array Oper) (ar:St) (K:Env->St->Prop) (Kp:AV->St->Prop) (B:List Nat) (i j:Nat) (post:List (Bool×Nat)) (ρ:Env) (U:St):Prop:=match ops[i]?,ops[j]? with
 | some oi,some oj=>Bp C mu ops ar Kp B oi (λ ρ U=>Bp C mu ops ar Kp B oj (λ ρ U=>qy C mu ops ar K Kp B post ρ U) ρ U) ρ U /\
    Bp C mu ops ar Kp B oj (λ ρ U=>Bp C mu ops ar Kp B oi (λ ρ U=>qy C mu ops ar K Kp B post ρ U) ρ U) ρ U
 | _,_=>False
def Q2 (ops:Array Oper) (pre:List (Bool×Nat)) (i j:Nat) (post:List (Bool×Nat)):Bool :=
 (match p9 ops pre (Array.replicate ops.size false) with
   | some l=>(Region.ready .any ops l==[i,j])&&((Region.ready .any ops (l.setIfInBounds i true)==[j])&&((Region.ready .any ops (l.setIfInBounds j true)==[i])&&(!Nat.beq i j&&jD ops post ((l.setIfInBounds i true).setIfInBounds j true))))
   | none=>false)&&Nat.beq (pre.length+(post.length+2)) ops.size
section
variable {C:de} {mu:List Nat} {ops:Array Oper} {ar:St} {K:Env->St->Prop} {Kp:AV->St->Prop} {B:List Nat}
theorem Ii {i:Nat} {o:Oper} {K0 K1:Env->St->Prop} {I':St->Prop} (ho:ops[i]?=some o) (hI:∀ U,df B ar U->I' U) (hk:∀ ρ U,df B ar U->K0 ρ U->K1 ρ U) {ρ:Env} {U:St} (hs:df B ar U) (h:Bp C mu ops ar Kp B o K0 ρ U):mR C mu ops I' i K1 Kp ρ U:=by
 unfold mR;rw[ho];dsimp only;unfold Bp at h;rw[rh]at h;rcases Dx h with ⟨hg,h⟩|⟨hg,h⟩
 . rw[hg];exact⟨λ _=>aC.wp_mono (λ v U hv=>⟨hI _ hv.1,hk _ _ hv.1 hv.2⟩) _ h,λ h=>by cases h⟩
 . rw[hg];exact⟨λ h=>(by cases h),λ _=>hk _ _ hs h⟩
theorem acs {i j:Nat} {post:List (Bool×Nat)} {su:Array Bool} (h1:Region.ready .any ops su=[i,j]) (h2:Region.ready .any ops (su.setIfInBounds i true)=[j]) (h3:Region.ready .any ops (su.setIfInBounds j true)=[i]) (gq:i≠j)
 (h4:jD ops post ((su.setIfInBounds i true).setIfInBounds j true)=true) {ρ:Env} {U:St} (hD:Dn ops su) (hI:df B ar U) (h:Q3 C mu ops ar K Kp B i j post ρ U):oc C mu ops (df B ar) K Kp (post.length+2) su ρ U:=by
 unfold Q3 at h;split at h
 . rename_i oi oj ZK p6;have key:∀ (a b:Nat) (oa ob:Oper),ops[a]?=some oa->ops[b]?=some ob->a∈Region.ready .any ops su->Region.ready .any ops (su.setIfInBounds a true)=[b]->jD ops post ((su.setIfInBounds a true).setIfInBounds b true)=true ->
    Bp C mu ops ar Kp B oa (λ ρ U=>Bp C mu ops ar Kp B ob (λ ρ U=>qy C mu ops ar K Kp B post ρ U) ρ U) ρ U ->
    mR C mu ops (Ix ops (df B ar) a) a (oc C mu ops (df B ar) K Kp (post.length+1) (su.setIfInBounds a true)) Kp ρ U:=by
    intro a b oa ob hoa hob hra N8 nj hw;refine Ii hoa (λ _ h=>.inr h) (λ ρ1 aS A6 hw1=>?_) hI hw;refine⟨λ h0=>(by rw[N8]at h0; cases h0),λ c hc=>?_⟩;have NY:=hc;rw[N8,kn]at hc;subst hc;exact Ii hob (λ _ h=>.inr h) (λ s0 bf rZ Oc=>ur post _ s0 bf nj ((hD.set hra).set NY) (.inr rZ) (sc B _ _ _ Oc)) A6 hw1
   refine⟨λ h0=>(by rw[h1]at h0; cases h0),λ c hc=>?_⟩;have NY:=hc;rw[h1]at hc;simp only[cK,List.not_mem_nil,or_false]at hc;rcases hc with rfl|rfl
   . exact key _ _ _ _ ZK p6 NY h2 h4 h.1
   . exact key _ _ _ _ p6 ZK NY h3 (by rw[Array.setIfInBounds_comm _ _ gq.symm]; exact h4) h.2
 . exact h.elim
theorem uU {I:St->Prop} {Kp zU:AV->St->Prop} (hp:∀ v U,Kp v U->zU v U):∀ (n:Nat) (listed:Array Bool) (ρ:Env) (U:St),oc C mu ops I K Kp n listed ρ U->oc C mu ops I K zU n listed ρ U
 | 0,_,_,_,h=>h
 | n+1,listed,ρ,U,h=>⟨h.1,λ i hi=>by
   have h2:=h.2 i hi;unfold mR at h2 ⊢;split
   . rename_i ho; rw[ho]at h2; exact uU hp n _ _ _ h2
   . rename_i o ho;rw[ho]at h2;dsimp only at h2 ⊢;cases hg:jm ops ρ o.guard<;>rw[hg]at h2<;>simp only[ax]at h2 ⊢
     exact⟨λ e=>aC.wp_mono (λ v U hv=>⟨hv.1,uU hp n _ _ _ hv.2⟩) _ (aC.Eb hp _ (h2.1 e)),λ e=>uU hp n _ _ _ (h2.2 e)⟩⟩
theorem bL.TP {nt id:Nat} {ro:Ro} {Q:Ex->Env->St->Prop} {ρ:Env} {U:St} (pre:List (Bool×Nat)) (i j:Nat) (post:List (Bool×Nat)) (hm:C.P.follows .mixedOrders=true) (cS:mP nt ops=true) (hp:Q2 ops pre i j post=true) (ZA:∀ v U,Kp v U->zV Q v U)
 (h:qy C mu ops U (λ eP ad=>Q3 C mu ops U (KQ Q) Kp B i j post eP ad) Kp B pre ρ U):bL C nt ro (.region id ops true) Q ρ U:=by
 simp only[Q2,cb]at hp;obtain⟨h1,h2⟩:=hp;have h2:=fP h2;split at h1
 . rename_i l hl;simp only[cb,beq_iff_eq,Bool.not_eq_true']at h1;obtain⟨k1,k2,k3,k4,k5⟩:=h1;have gq:i≠j:=λ e=>by subst e; simp at k4
   refine bL.BC mu (df B U) hm cS (uU ZA _ _ _ _ ?_);have:=zq (λ eP ad hD hI hw=>acs k1 k2 k3 gq k5 hD hI hw) pre _ ρ U hl (Dn.none _ _) (λ _ _=>rfl) (sc B _ _ _ h);rw[h2]at this;exact this
 . cases h1
end
structure Qr where
 E6:(St->Prop)->St->Prop
 n:St->Prop
 e:Nat->St->Prop
 r:St->Prop
def uJ:Nat->Type
 | 0=>Qr->St->Prop
 | n+1=>AV->uJ n
def uJ.app:(n:Nat)->uJ n->List AV->Qr->St->Prop
 | 0,f,_,q,U=>f q U
 | n+1,f,x::xs,q,U=>uJ.app n (f x) xs q U
 | n+1,f,[],q,U=>uJ.app n (f .any) [] q U
def uJ.lam:(n:Nat)->(List AV->Qr->St->Prop)->uJ n
 | 0,F=>λ q U=>F [] q U
 | n+1,F=>λ x=>uJ.lam n (λ xs q U=>F (x::xs) q U)
theorem uJ.rP:∀ (n:Nat) (F:List AV->Qr->St->Prop) (xs:List AV) (q:Qr) (U:St),xs.length=n->uJ.app n (uJ.lam n F) xs q U=F xs q U
 | 0,F,[],q,U,_=>rfl
 | n+1,F,x::xs,q,U,h=>uJ.rP n (λ xs U=>F (x::xs) U) xs q U (by simpa using h)
 | 0,F,_::_,q,U,h=>by simp at h
 | n+1,F,[],q,U,h=>by simp at h
def gm.st (L:gm) (s:LoopState) (p:Option Code):gm:={ L with state:=s,gL:=p }
def ajn (o:Nat) (k:St->Prop) (U:St):Prop:=∃ L,U.loop o=some L/\L.state=.ready/\k (U.set o (.loop { L with state:=.busy }))
def ajr (o:Nat) (R:cV->St->Prop):Qr where
 E6:=ajn o
 n:=λ U=>∃ L,U.loop o=some L/\R (.ret (.bool true)) (U.set o (.loop { L with state:=.ready,gL:=none }))
 e:=λ id U=>∃ L,U.loop o=some L/\R (.ret (.bool false)) (U.set o (.loop { L with state:=.done,gL:=some (.exit id) }))
 r:=λ U=>∃ L,U.loop o=some L/\R (.ret (.bool false)) (U.set o (.loop { L with state:=.done,gL:=some .ret }))
def LL (o:Nat) (Kn:St->Prop) (Ke:Nat->St->Prop) (Kr:St->Prop) (Kp:AV->St->Prop):cV->St->Prop
 | .ret _,ad=>∃ L,ad.loop o=some L/\L.state≠.busy/\(match L.gL with
   | none=>Kn (ad.del o)
   | some .ret=>Kr (ad.del o)
   | some (.exit id)=>Ke id (ad.del o)
   | _=>False)
 | .panic x,ad=>Kp x ad
def sN (C:de) (np:Nat) (fv:AV) (U:St) (B:uJ np) (Kn:St->Prop) (Ke:Nat->St->Prop) (Kr:St->Prop) (Kp:AV->St->Prop):Prop :=
 match fv with
 | .func (.func lN) first cap=>fC C.P lN=true/\∀ (o:Nat) (L:gm),U.dL o->L.state=.ready->L.gL=none ->
   (∀ (args:List AV) (aS:St) (R:cV->St->Prop) (L1:gm),args.length=np->aS.loop o=some L1->L1.st .ready none=L->uJ.app np B args (ajr o R) aS->n7 C o args aS R) ->
   ae C lN (first++[.te o]++cap) (U.new o (.loop L)) (LL o Kn Ke Kr Kp)
 | _=>False
def J7 (b:Bool) (A B:Prop):Prop:=match b with
 | true=>A
 | false=>B
def jn (n:Nat) (J:Fn n) (B:Fn n->Prop):Prop:=∀ j:Fn n,Fn.imp n J j->B j
def fw (n:Nat) (init:List AV) (U:St) (B:Fn n->Fn n):Prop :=
 ∃ I:Nat->Fn n,(∃ m,Fn.app n (I m) init U)/\∀ m,Fn.imp n (I m) (B (Fn.lam n λ vs U=>∃ m',m'<m/\Fn.app n (I m') vs U))
inductive An where
 | z
 | sq (live:Option (List Nat)) (a b:An)
 | cd (a b:An)
 | bk (a:An)
 | lp (live:List Nat) (a:An)
 | rg (mu pf:List Nat) (dF:Option Pl)
 | rb (mu:List Nat) (dF:Pl)
 | rl (mu:List Nat) (dF:Pl)
 | r2 (mu:List Nat) (pre:List (Bool×Nat)) (i j:Nat) (post:List (Bool×Nat))
 | rf (a b:An)
def pw (C:de):Code->An->Qx->Env->St->Prop
 | .skip,_,Q,ρ,U=>Q.n ρ U
 | .exit i,_,Q,ρ,U=>Q.e i ρ U
 | .ret,_,Q,ρ,U=>Q.r ρ U
 | .seq a b,.sq none x y,Q,ρ,U=>pw C a x { Q with n:=λ ρ U=>pw C b y Q ρ U } ρ U
 | .seq a b,.sq (some live) x y,Q,ρ,U=>jn live.length (Fn.lam live.length λ vs U=>pw C b y Q (F9 live vs) U)
    λ j=>pw C a x { Q with n:=λ ρ U=>Fn.app live.length j (live.map ρ.get) U } ρ U
 | .cond c a b,.cd x y,Q,ρ,U=>ax (ρ.ev C c) (pw C a x Q ρ U) (pw C b y Q ρ U)
 | .block i a,.bk x,Q,ρ,U=>pw C a x { Q with e:=λ k ρ U=>J7 (Nat.beq k i) (Q.n ρ U) (Q.e k ρ U) } ρ U
 | .loop a,.lp live x,Q,ρ,U=>fw live.length (live.map ρ.get) U λ lp=>Fn.lam live.length λ vs U =>
    pw C a x { Q with n:=λ ρ U=>Fn.app live.length lp (live.map ρ.get) U } (F9 live vs) U
 | .region _ ops false,.rg mu pf none,Q,ρ,U=>xv C mu pf ops ops.toList ρ U Q.n Q.p
 | .region _ ops true,.rg mu pf (some dF),Q,ρ,U=>Jo C mu ops U Q.n Q.p dF.steps [] ρ U
 | .region _ ops true,.rb mu dF,Q,ρ,U=>∃ B:List Nat,qy C mu ops U Q.n Q.p B dF.steps ρ U
 | .region _ ops true,.rl mu dF,Q,ρ,U=>zr C mu ops U Q.n Q.p dF.steps ρ U
 | .region _ ops true,.r2 mu pre i j post,Q,ρ,U=>∃ B:List Nat,qy C mu ops U (λ eP ad=>Q3 C mu ops U Q.n Q.p B i j post eP ad) Q.p B pre ρ U
 | .rangeFunc f ps a b,.rf x y,Q,ρ,U=>sN C ps.size (ρ.ev C f) U (uJ.lam ps.size λ args qr U=>pw C a x
    { n:=λ ρ U=>qr.E6 (λ U=>pw C b y { n:=λ _ U=>qr.n U,e:=λ i _ U=>qr.e i U,r:=λ _ U=>qr.r U,p:=λ _ _=>False } ρ U) U,e:=λ _ _ _=>False,r:=λ _ _=>False,p:=λ _ _=>False }
    ⟨zy ρ.get ps.toList args⟩ U) (λ U=>Q.n ρ U) (λ i U=>Q.e i ρ U) (λ U=>Q.r ρ U) (λ x U=>Q.p x U)
 | _,_,_,_,_=>False
def nT (nt:Nat):Bool->Code->An->Bool
 | _,.skip,_=>true
 | _,.exit _,_=>true
 | _,.ret,_=>true
 | top,.seq a b,.sq _ x y=>nT nt top a x&&nT nt top b y
 | top,.cond _ a b,.cd x y=>nT nt top a x&&nT nt top b y
 | top,.block _ a,.bk x=>nT nt top a x
 | top,.loop a,.lp _ x=>nT nt top a x
 | _,.region _ ops false,.rg _ _ none=>mP nt ops
 | _,.region _ ops true,.rg _ _ (some dF)=>mP nt ops&&Lx ops dF
 | _,.region _ ops true,.rb _ dF=>mP nt ops&&Lx ops dF
 | _,.region _ ops true,.rl _ dF=>mP nt ops&&(Lx ops dF&&Jk dF.steps)
 | _,.region _ ops true,.r2 _ pre i j post=>mP nt ops&&Q2 ops pre i j post
 | top,.rangeFunc _ ps a b,.rf x y=>top&&ps.toList.all (λ t=>Nat.blt t nt)&&nT nt false a x&&nT nt false b y
 | _,_,_=>false
theorem BW {C:de} {nt:Nat} (hm:C.P.follows .mixedOrders=true):∀ (c:Code) (an:An) (top:Bool) (ro:Ro) (Q:Qx) (ρ:Env) (U:St),nT nt top c an=true->(top=true->ro=.fn) ->
 pw C c an Q ρ U->bL C nt ro c Q.q ρ U:=by
 intro c
 induction c with
 | skip=>intro an top ro Q ρ U cS ht h; exact bL.skip h
 | exit i=>intro an top ro Q ρ U cS ht h; exact bL.exit h
 | ret=>intro an top ro Q ρ U cS ht h; exact bL.ret h
 | seq a b yd Of =>
   intro an top ro Q ρ U cS ht h;cases an<;>simp only[nT,bZ,cb]at cS
   rename_i live x y;refine bL.seq ?_;cases live with
   | none =>
     simp only[pw]at h;refine (yd x top ro _ ρ U cS.1 ht h).mono λ e ρ U he=>?_;cases e<;>first|exact Of y top ro Q ρ U cS.2 ht he|exact he
   | some live =>
     simp only[pw]at h;have:=h (Fn.lam live.length λ vs U=>bL C nt ro b Q.q (F9 live vs) U) (Fn.Nt λ xs U hl hx=>by
      rw[Fn.rP _ _ _ _ hl]at hx ⊢;exact Of y top ro Q _ _ cS.2 ht hx)
     refine (yd x top ro _ ρ U cS.1 ht this).mono λ e ρ U he=>?_;cases e with
     | normal =>
       have mB:Fn.app live.length (Fn.lam live.length λ vs U=>bL C nt ro b Q.q (F9 live vs) U) (live.map ρ.get) U:=he;rw[Fn.rP _ _ _ _ (by simp)]at mB;exact bL.Pa mB (Hh ρ live)
     | exit i=>exact he
     | ret=>exact he
     | panic x=>exact he
 | cond c a b yd Of =>
   intro an top ro Q ρ U cS ht h;cases an<;>simp only[nT,bZ,cb]at cS
   rename_i x y;simp only[pw]at h;cases hc:ρ.ev C c<;>rw[hc]at h<;>simp only[ax]at h
   exact bL.cond hc (λ e=>yd x top ro Q ρ U cS.1 ht (h.1 e)) (λ e=>Of y top ro Q ρ U cS.2 ht (h.2 e))
 | block i a yd =>
   intro an top ro Q ρ U cS ht h;cases an<;>simp only[nT,bZ]at cS
   rename_i x;simp only[pw]at h;refine bL.block ((yd x top ro _ ρ U cS ht h).mono λ e ρ U he=>?_);cases e with
   | exit k =>
     have mB:J7 (Nat.beq k i) (Q.n ρ U) (Q.e k ρ U):=he;simp only[Ax];cases hb:Nat.beq k i with
     | true=>rw[hb]at mB; rw[if_pos (fP hb)]; exact mB
     | false=>rw[hb]at mB; rw[if_neg (λ e=>by subst e; simp at hb)]; exact mB
   | normal=>exact he
   | ret=>exact he
   | panic x=>exact he
 | loop a yd =>
   intro an top ro Q ρ U cS ht h;cases an<;>simp only[nT,bZ]at cS
   rename_i live x;simp only[pw]at h;obtain⟨I,⟨m,h0⟩,hr⟩:=h;refine bL.loop (λ m ρ U=>Fn.app live.length (I m) (live.map ρ.get) U) (n:=m) h0 λ m ρ U hI=>?_;have:=Fn.Oh (hr m) _ _ (by simp) hI;rw[Fn.rP _ _ _ _ (by simp)]at this;refine bL.Pa ((yd x top ro _ _ _ cS ht this).mono λ e eP ad he=>?_) (Hh ρ live);cases e with
   | normal =>
     have mB:Fn.app live.length (Fn.lam live.length λ vs U=>∃ m',m'<m/\Fn.app live.length (I m') vs U) (live.map eP.get) ad:=he;rw[Fn.rP _ _ _ _ (by simp)]at mB;exact mB
   | exit i=>exact he
   | ret=>exact he
   | panic x=>exact he
 | region id ops draw =>
   intro an top ro Q ρ U cS ht h;have kp:zV Q.q=λ x U=>∀ ρ:Env,Q.p x U:=rfl;cases draw with
   | false =>
     cases an with
     | rg mu pf dF =>
       cases dF with
       | none =>
         simp only[nT]at cS;simp only[pw]at h;refine bL.region mu cS ?_;have h2:=yl _ ρ U h;exact wR (λ _ _ h=>h) (λ v U hv ρ=>hv) _ h2
       | some dF=>simp[nT]at cS
     | _=>simp[nT]at cS
   | true =>
     cases an with
     | rg mu pf dF =>
       cases dF with
       | none=>simp[nT]at cS
       | some dF =>
         simp only[nT,cb]at cS;simp only[pw]at h;obtain⟨B,_,hA⟩:=GD _ _ _ _ h;refine bL.u5 mu B dF.steps hm cS.1 (GB cS.2) ?_;exact kT (λ _ _ h=>h) (λ v U hv ρ=>hv) _ hA
     | rb mu dF =>
       simp only[nT,cb]at cS;simp only[pw]at h;obtain⟨B,hB⟩:=h;refine bL.u5 mu B dF.steps hm cS.1 (GB cS.2) ?_;exact kT (λ _ _ h=>h) (λ v U hv ρ=>hv) _ (sc B _ _ _ hB)
     | rl mu dF =>
       simp only[nT,cb]at cS;simp only[pw]at h;obtain⟨B,_,hA⟩:=GC _ [] _ _ cS.2.2 h;refine bL.u5 mu B dF.steps hm cS.1 (GB cS.2.1) ?_;exact kT (λ _ _ h=>h) (λ v U hv ρ=>hv) _ hA
     | r2 mu pre i j post =>
       simp only[nT,cb]at cS;simp only[pw]at h;obtain⟨B,hB⟩:=h;exact bL.TP (mu:=mu) (B:=B) pre i j post hm cS.1 cS.2 (λ v U hv ρ=>hv) hB
     | _=>simp[nT]at cS
 | rangeFunc f ps a b yd Of =>
   intro an top ro Q ρ U cS ht h;cases an<;>simp only[nT,bZ,cb]at cS
   rename_i x y;obtain⟨⟨⟨h1,h2⟩,h3⟩,h4⟩:=cS;have KK:=ht h1;subst KK;simp only[pw,sN]at h;split at h
   . rename_i lN first cap hf
     obtain⟨vG,h⟩:=h;refine bL.rangeFunc 0 hf vG λ o ho=>?_;refine (h o ⟨ρ.get,nt,ps,a,b,.ready,none,0⟩ ho rfl rfl ?_).mono λ r ad hr=>?_
     . intro args aS R L1 hl ke gr hB;obtain⟨r1,r2,r3,r4,r5,r6,r7,r8⟩:=L1;simp only[gm.st,gm.mk.injEq,true_and]at gr;obtain⟨e1,e2,e3,e4,e5,e6⟩:=gr;subst e1 e2 e3 e4 e5 e6;rw[uJ.rP _ _ _ _ _ hl]at hB;refine n7.Lq ke (by simpa using hl) (λ t ht=>by
        have:=fm.1 h2 t ht;exact Nat.le_of_ble_eq_true this) ?_
       refine (yd x false (.round o) _ _ _ h3 (λ h=>by cases h) hB).mono λ e eP ad he=>?_;cases e with
       | normal =>
         obtain⟨L,k1,k2,k3⟩:=he;refine⟨L,k1,k2,(Of y false (.round o) _ _ _ h4 (λ h=>by cases h) k3).mono λ e s0 bf he=>?_⟩;cases e with
         | normal=>exact he
         | exit i=>exact he
         | ret=>exact he
         | panic x=>exact he
       | exit i=>exact he
       | ret=>exact he
       | panic x=>exact he
     . cases r with
       | ret v =>
         obtain⟨L,k1,k2,k3⟩:=hr;refine⟨L,k1,k2,?_⟩;split at k3
         . rename_i hp; rw[hp]; exact k3
         . rename_i hp; rw[hp]; exact k3
         . rename_i hp; rw[hp]; exact k3
         . exact k3.elim
       | panic v=>exact hr
   . exact h.elim
 | scope a yd=>intro an top ro Q ρ U cS; cases an<;>simp[nT]at cS
 | label l=>intro an top ro Q ρ U cS; cases an<;>simp[nT]at cS
 | goto l=>intro an top ro Q ρ U cS; cases an<;>simp[nT]at cS
 | refuse w=>intro an top ro Q ρ U cS; cases an<;>simp[nT]at cS
def bD (vt:Option (Bool×Nat)) (p:AV) (U:St) (k:AV->Prop):Prop:=match ak vt p U with
 | .val v=>k v
 | @aC.cond q _ (.val v)=>q/\k v
 | _=>False
def GG (P:Program) (ρ:Env) (U:St):List ResultVar->(List AV->Prop)->Prop
 | [],k=>k []
 | .tmp t::rs,k=>GG P ρ U rs λ vs=>k (ρ.get t::vs)
 | .cell t ty::rs,k=>bD (pJ P ty) (ρ.get t) U λ v=>GG P ρ U rs λ vs=>k (v::vs)
theorem yo {P:Program} {ρ:Env} {U:St}:∀ (l:List ResultVar) (k:List AV->Prop),GG P ρ U l k->xy P ρ U l k
 | [],_,h=>h
 | .tmp t::rs,k,h=>yo rs _ h
 | .cell t ty::rs,k,h=>by
   simp only[GG,bD]at h;simp only[xy,Cj];rw[show wJ P ty (ρ.get t) U=ak (pJ P ty) (ρ.get t) U from rfl];split at h
   . rename_i hl; rw[hl]; exact yo rs _ h
   . rename_i hl; rw[hl]; exact⟨h.1,yo rs _ h.2⟩
   . exact h.elim
def aq (R:cV->St->Prop) (x:AV) (U:St):Prop:=∃ x' ad,pD x U x' ad/\R (.ret x') ad
def aa (R:cV->St->Prop) (x:AV) (U:St):Prop:=R (.panic x) U
def ajz (P:Program) (fn:Func) (R:cV->St->Prop):Qx where
 n:=λ ρ U=>GG P ρ U fn.results.toList λ vs=>aq R (xD vs) U
 e:=λ _ _ _=>False
 r:=λ ρ U=>GG P ρ U fn.results.toList λ vs=>aq R (xD vs) U
 p:=aa R
def I9 (C:de) (fn:Func) (an:An) (args:List AV) (R:cV->St->Prop) (U:St):Prop:=match fn.body with
 | some c=>pw C c an (ajz C.P fn R) (Env.kX args) U
 | none=>False
def okF (fn:Func) (an:An) (n:Nat):Bool:=match fn.body with
 | some c=>nT fn.ntmps true c an&&Nat.ble n fn.ntmps
 | none=>false
theorem ae.OH {C:de} (hm:C.P.follows .mixedOrders=true) {f:FuncId} {fn:Func} (an:An) {args:List AV} {R:cV->St->Prop} {U:St} (hf:C.P.funcs[f]?=some fn) (cS:okF fn an args.length=true)
 (h:I9 C fn an args R U):ae C f args U R:=by
 unfold okF at cS;unfold I9 at h;split at cS
 . rename_i c hb;rw[hb]at h;simp only[cb]at cS;refine ae.OI hf hb (Nat.le_of_ble_eq_true cS.2) ?_;refine (BW hm c an true .fn _ _ _ cS.1 (λ _=>rfl) h).mono λ e ρ U he=>?_;cases e with
   | normal=>exact yo _ _ he
   | ret=>exact yo _ _ he
   | panic x=>exact he
   | exit i=>exact he
 . cases cS
theorem aq.mk {R:cV->St->Prop} {x:AV} {U:St} (h:R (.ret x) U):aq R x U:=⟨x,U,pD.refl _ _,h⟩
end Go.Rip
namespace Go.Rip
open Go.RowKit
section
variable {C:de} {U:St} {K:AV->St->Prop} {Kp:AV->St->Prop}
@[simp] theorem al (v:AV):(aC.val v).wp C U K Kp=K v U:=rfl
@[simp] theorem nD (v:AV) (b:Nat) (x:Live):(aC.jG v b x).wp C U K Kp=K v (U.set b x):=rfl
@[simp] theorem lR (k:NV) (x:Live):(aC.new k none x).wp C U K Kp=∀ b,U.dL b->K (k.at b) (U.new b x):=rfl
@[simp] theorem aki (k:NV) (d:Nat) (x:Live):(aC.new k (some d) x).wp C U K Kp=∀ b,(U.del d).dL b->K (k.at b) ((U.del d).new b x):=rfl
@[simp] theorem mL (f:FuncId) (args:List AV):(aC.enter f args).wp C U K Kp=ae C f args U (ah K Kp):=rfl
@[simp] theorem zQ (f:Nat) (args:List AV):(aC.yield f args).wp C U K Kp=n7 C f args U (ah K Kp):=rfl
@[simp] theorem Zb (v:AV):(aC.panic v).wp C U K Kp=Kp v U:=rfl
@[simp] theorem wp_cond (p:Prop) [Decidable p] (r:aC):(aC.cond p r).wp C U K Kp=(p/\r.wp C U K Kp):=rfl
@[simp] theorem akl:aC.bad.wp C U K Kp=False:=rfl
@[simp] theorem akm (p:Prop) [Decidable p] (r s:aC):(if p then r else s).wp C U K Kp=if p then r.wp C U K Kp else s.wp C U K Kp:=by split<;>rfl
@[simp] theorem bE (x:AV):ah K Kp (.ret x) U=K x U:=rfl
@[simp] theorem af6 (x:AV):ah K Kp (.panic x) U=Kp x U:=rfl
end
@[simp] theorem af7 (b:Bool) (A B:Prop):ax (.bool b) A B=((b=true->A)/\(b=false->B)):=rfl
theorem bH (A B:Prop):ax (.bool true) A B=A:=by simp[ax]
theorem bq (A B:Prop):ax (.bool false) A B=B:=by simp[ax]
theorem cq (p:Prop) [Decidable p] (A B:Prop):ax (.bool (decide p)) A B=((p->A)/\(¬ p->B)):=by simp[ax]
@[simp] theorem bo (b w:Bool):aM (.bool b) w=.bool (b==w):=rfl
@[simp] theorem akd (w:Bool):aM (.aK []) w=.bool false:=rfl
@[simp] theorem nw (v:AV):GL true v=v:=rfl
@[simp] theorem afg (v:AV):GL false v=.aK []:=rfl
@[simp] theorem aP (C:de) (b:Bool) (r:aC) (k:AV->Prop):ao C (.bool b) r k=fJ C b r k:=rfl
@[simp] theorem sM (C:de) (b:Bool) (v:AV) (k:AV->Prop):fJ C b (.val v) k=k (GL b v):=rfl
@[simp] theorem af9 (C:de) (b:Bool) (p:Prop) [Decidable p] (r:aC) (k:AV->Prop):fJ C b (.cond p r) k=((b=true->p)/\fJ C b r k):=rfl
@[simp] theorem afb (C:de) (b:Bool) (f:FuncId) (args:List AV) (k:AV->Prop):fJ C b (.enter f args) k=∃ v,(b=true->Pure C f args v)/\k (GL b v):=rfl
@[simp] theorem cN (C:de) (k:AV->Prop):∀ r:aC,(fJ C false r k)=k (.aK [])
 | .val v=>rfl
 | @aC.cond _ _ r=>by simp only[fJ]; rw[cN C k r]; simp
 | .enter _ _=>by simp[fJ]
 | .jG _ _ _=>by simp[fJ]
 | .new _ _ _=>by simp[fJ]
 | .nf _ _=>by simp[fJ]
 | .yield _ _=>by simp[fJ]
 | .panic _=>by simp[fJ]
 | .bad=>by simp[fJ]
@[simp] theorem aJ (C:de) (v:AV) (k:AV->Prop):az C (.val v) k=k v:=rfl
@[simp] theorem jN (C:de) (p:Prop) [Decidable p] (r:aC) (k:AV->Prop):az C (.cond p r) k=(p/\az C r k):=rfl
@[simp] theorem BA (C:de) (f:FuncId) (args:List AV) (k:AV->Prop):az C (.enter f args) k=∃ v,Pure C f args v/\k v:=rfl
theorem wT (C:de) (k:AV->Prop):∀ r:aC,fJ C true r k=az C r k
 | .val v=>rfl
 | @aC.cond _ _ r=>by simp only[fJ,az,wT C k r]; simp
 | .enter _ _=>by simp[fJ,az]
 | .jG _ _ _=>by simp[fJ,az]
 | .new _ _ _=>by simp[fJ,az]
 | .nf _ _=>by simp[fJ,az]
 | .yield _ _=>by simp[fJ,az]
 | .panic _=>by simp[fJ,az]
 | .bad=>by simp[fJ,az]
@[simp] theorem cB (C:de) (k:AV->Prop) (r:aC):fJ C true r k=az C r k:=wT C k r
theorem Fl (C:de) (k:AV->Prop) (r:aC) (p:Prop) [Decidable p]:fJ C (decide p) r k=((p->az C r k)/\(¬ p->k (.aK []))):=by
 by_cases h:p<;>simp[h]
theorem C9 (C:de) (k:AV->Prop) (r:aC) (p:Prop) [Decidable p]:fJ C (!decide p) r k=((p->k (.aK []))/\(¬ p->az C r k)):=by
 by_cases h:p<;>simp[h]
@[simp] theorem aQ (b:Bool) (x y:AV):bN (.bool b) x y=.val (if b=true then x else y):=rfl
@[simp] theorem ite_bool (b x y:Bool):(if b=true then AV.bool x else AV.bool y)=.bool (if b=true then x else y):=by split<;>rfl
section
variable (bt:BT) (l:Bool) (k:IntKind) (a b:Int) (s t:List UInt8)
@[simp] theorem bA:aw .eql bt l (.int k a) (.int k b)=.val (.bool (decide (a=b))):=by simp only[aw,if_true]; rfl
@[simp] theorem c8:aw .neq bt l (.int k a) (.int k b)=.val (.bool (!decide (a=b))):=by simp only[aw,if_true]; rfl
@[simp] theorem bV:aw .lss bt l (.int k a) (.int k b)=.val (.bool (decide (a<b))):=by simp only[aw,if_true]
@[simp] theorem nG:aw .leq bt l (.int k a) (.int k b)=.val (.bool (decide (a<=b))):=by simp only[aw,if_true]
@[simp] theorem eM:aw .gtr bt l (.int k a) (.int k b)=.val (.bool (decide (b<a))):=by simp only[aw,if_true,gt_iff_lt]
@[simp] theorem jc:aw .geq bt l (.int k a) (.int k b)=.val (.bool (decide (b<=a))):=by simp only[aw,if_true,ge_iff_le]
@[simp] theorem nF:aw .add bt l (.int k a) (.int k b)=jS k (a+b):=by simp only[aw,if_true]
@[simp] theorem l9:aw .sub bt l (.int k a) (.int k b)=jS k (a-b):=by simp only[aw,if_true]
@[simp] theorem ME:aw .mul bt l (.int k a) (.int k b)=jS k (a*b):=by simp only[aw,if_true]
@[simp] theorem af5:aw .quo bt l (.int k a) (.int k b)=.cond (b≠0) (jS k (a.tdiv b)):=by simp only[aw,if_true]
@[simp] theorem MF:aw .rem bt l (.int k a) (.int k b)=.cond (b≠0) (.val (.int k (a.tmod b))):=by simp only[aw,if_true]
@[simp] theorem gZ:aw .eql bt l (.str s) (.str t)=.val (.bool (decide (s=t))):=by
 show aC.val (.bool (s==t))=_;rw[show (s==t)=decide (s=t) from qO.2 (by simp)]
@[simp] theorem xh:aw .neq bt l (.str s) (.str t)=.val (.bool (!decide (s=t))):=by
 show aC.val (.bool (s != t))=_;rw[show (s != t)=!decide (s=t) from qO.2 (by simp)]
@[simp] theorem af2:aw .add bt l (.str s) (.str t)=.cond (s.length+t.length<=4294967296) (.val (.str (s++t))):=rfl
@[simp] theorem ad0 (x y:Bool) (i p:Bool) (f:Option (List FK)) (sl:Bool):aw .eql ⟨true,i,p,f,sl⟩ l (.bool x) (.bool y)=.val (.bool (x==y)):=by simp only[aw,if_true]
@[simp] theorem Aw (x y:Bool) (i p:Bool) (f:Option (List FK)) (sl:Bool):aw .neq ⟨true,i,p,f,sl⟩ l (.bool x) (.bool y)=.val (.bool (x != y)):=by simp only[aw,if_true]
@[simp] theorem af3 (x y:List AV) (i p q:Bool) (f:List FK) (sl:Bool):aw .eql ⟨q,i,p,some f,sl⟩ l (.agg x) (.agg y)=xH .bool (qF f x y):=rfl
@[simp] theorem af4 (x y:List AV) (i p q:Bool) (f:List FK) (sl:Bool):aw .neq ⟨q,i,p,some f,sl⟩ l (.agg x) (.agg y)=xH (λ r=>.bool (!r)) (qF f x y):=rfl
@[simp] theorem aik (f:Bool->AV) (r:Bool):xH f (some r)=.val (f r):=rfl
@[simp] theorem eT (x:Bool):lj .not (.bool x)=.val (.bool (!x)):=rfl
@[simp] theorem iv:jS .i64 a=.cond (wh a) (.val (.int .i64 a)):=rfl
@[simp] theorem WA:jS .u8 a=.val (.int .u8 (IntKind.u8.wrap a)):=rfl
end
theorem bI {n:Int} (h1:-9223372036854775808<=n) (h2:n<=9223372036854775807):wh n:=⟨h1,h2⟩
section
variable (sz b o:Nat) (p v:AV) (U:St) (L l:List AV)
theorem vK {U:St} {b:Nat} {L:List AV} (h:U.box b=some L) (n o:Nat):ak (some (false,n)) (.box b o) U=jH (L.drop o):=by simp[ak,od,h]
theorem Te {U:St} {b:Nat} {L:List AV} (h:U.box b=some L) (n o:Nat):ak (some (true,n)) (.box b o) U=.cond (n<=(L.drop o).length) (.val (.agg ((L.drop o).take n))):=by simp[ak,od,h]
@[simp] theorem wK:ak (some (false,sz)) (.da L) U=jH L:=rfl
@[simp] theorem Qu:ak (some (true,sz)) (.da L) U=.cond (sz<=L.length) (.val (.agg (L.take sz))):=rfl
@[simp] theorem dT (x:AV):jH (x::L)=.val x:=rfl
theorem oS {U:St} {b:Nat} {L:List AV} (h:U.box b=some L) (t:Bool) (n o:Nat) (v:AV):aI (some (t,n)) (.box b o) v U=.cond (v.dw=true/\(av v).length=n/\o+n<=L.length) (.jG (.aK []) b (.box (ay L o (av v)))):=by simp[aI,h]
@[simp] theorem bW:aZ (.box b o)=.val (.box b o):=rfl
@[simp] theorem Aj:aZ (.da L)=.val (.da L):=rfl
@[simp] theorem acx (f:Nat) (x y:List AV):aZ (.func (.func f) x y)=.val (.func (.func f) x y):=rfl
@[simp] theorem bh (k:Nat):af (some k) (.box b o)=.val (.box b (o+k)):=rfl
@[simp] theorem dC (k:Nat):af (some k) (.da L)=.val (.da (L.drop k)):=rfl
@[simp] theorem PF (k n:Nat):wu (some (k,false,n)) (.agg L)=jH (L.drop k):=rfl
@[simp] theorem agT (k n:Nat):wu (some (k,true,n)) (.agg L)=.cond (k+n<=L.length) (.val (.agg ((L.drop k).take n))):=rfl
@[simp] theorem Ag (e n:Nat) (c:mr) (k:IntKind) (j:Int) (at_:Option (Nat×TypeId×Nat)):aE (some (e,sz)) at_ (.vec n c L) (.int k j)=.cond (0<=j/\j<n) (.val (.da (L.drop (j.toNat*sz)))):=rfl
@[simp] theorem aeQ (e n z t:Nat) (k:IntKind) (j:Int) (at_:Option (Nat×TypeId×Nat)):aE (some (e,sz)) at_ (.ms b o n z t) (.int k j)=.cond (0<=j/\j<n/\z=sz) (.val (.box b (o+j.toNat*sz))):=rfl
@[simp] theorem HE (s:List UInt8) (k:IntKind) (j:Int) (at_:Option (Nat×TypeId×Nat)) (vt:Option (Bool×Nat)):jf true at_ vt (.str s) (.int k j)=.cond (0<=j/\j<s.length) (.val (.int .u8 (s.getD j.toNat 0).toNat)):=by simp[jf]
@[simp] theorem ou (s:List UInt8):cr (some true) (.str s)=.val (.int .i64 s.length):=rfl
@[simp] theorem vj (n:Nat) (c:mr):cr (some false) (.vec n c L)=.val (.int .i64 n):=rfl
@[simp] theorem La (n z e:Nat):cr (some false) (.ms b o n z e)=.val (.int .i64 n):=rfl
@[simp] theorem len_nil:cr (some false) .ag=.val (.int .i64 0):=rfl
@[simp] theorem bp (k:Nat):aU (.aK L) k=jH (L.drop k):=rfl
@[simp] theorem Hc:av (.agg L)=L:=rfl
@[simp] theorem RO (k:IntKind) (n:Int):av (.int k n)=[.int k n]:=rfl
@[simp] theorem He (s:List UInt8):av (.str s)=[.str s]:=rfl
@[simp] theorem agM (x:Bool):av (.bool x)=[.bool x]:=rfl
@[simp] theorem aid:av (.box b o)=[.box b o]:=rfl
@[simp] theorem aie (n:Nat) (c:mr):av (.vec n c L)=[.vec n c L]:=rfl
@[simp] theorem aiq (n z e:Nat):av (.ms b o n z e)=[.ms b o n z e]:=rfl
@[simp] theorem abb:av .ag=[.ag]:=rfl
@[simp] theorem ad6:av .a8=[.a8]:=rfl
@[simp] theorem agO (f:Go.Fn) (x y:List AV):av (.func f x y)=[.func f x y]:=rfl
@[simp] theorem agN (x y:List AV):av (.gJ x y)=[.gJ x y]:=rfl
@[simp] theorem aip (m:Nat):av (.mp m)=[.mp m]:=rfl
@[simp] theorem XJ:(AV.agg L).dw=true:=rfl
@[simp] theorem XK (k:IntKind) (n:Int):(AV.int k n).dw=true:=rfl
@[simp] theorem XL (s:List UInt8):(AV.str s).dw=true:=rfl
@[simp] theorem aih (x:Bool):(AV.bool x).dw=true:=rfl
@[simp] theorem aji:(AV.box b o).dw=true:=rfl
@[simp] theorem ajj (n:Nat) (c:mr):(AV.vec n c L).dw=true:=rfl
@[simp] theorem akf (n z e:Nat):(AV.ms b o n z e).dw=true:=rfl
@[simp] theorem acw:AV.ag.dw=true:=rfl
@[simp] theorem af8:AV.a8.dw=true:=rfl
@[simp] theorem aij (f:Go.Fn) (x y:List AV):(AV.func f x y).dw=true:=rfl
@[simp] theorem aii (x y:List AV):(AV.gJ x y).dw=true:=rfl
@[simp] theorem ake (m:Nat):(AV.mp m).dw=true:=rfl
@[simp] theorem Ha (h:v.dw=true):fL v=.cond True (.cL (av v)):=by simp[fL,h]
@[simp] theorem uv (s:List UInt8) (sl:Option (TypeId×Nat)) (lo hi:Option AV):eD true sl (.str s) lo hi=(match eI 0 lo,eI s.length hi with
 | some l,some h=>.cond (0<=l/\l<=h/\h<=s.length) (.val (.str ((s.take h.toNat).drop l.toNat)))
 | _,_=>.bad):=by
 simp only[eD];cases eI 0 lo<;>cases eI (s.length:Int) hi<;>rfl
@[simp] theorem oT (d:Int):eI d none=some d:=rfl
@[simp] theorem kU (d:Int) (k:IntKind) (n:Int):eI d (some (.int k n))=some n:=rfl
@[simp] theorem BJ (e n:Nat) (c:mr) (lo hi:Option AV) (st:Bool):eD st (some (e,sz)) (.vec n c L) lo hi=(match eI 0 lo,eI n hi with
 | some a,some b=>.cond (0<=a/\a<=b/\b<=n) (.val (.vec (b.toNat-a.toNat) (yO c hi) ((L.take (b.toNat*sz)).drop (a.toNat*sz))))
 | _,_=>.bad):=by
 simp only[eD];cases eI 0 lo<;>cases eI (n:Int) hi<;>rfl
@[simp] theorem akg (k:IntKind) (a b:Int):DH (.int k a) (.int k b)=.val (.int k (if b > a then b else a)):=by simp[DH]
@[simp] theorem abI (k:IntKind) (a b:Int):Bh (.int k a) (.int k b)=.val (.int k (if b<a then b else a)):=by simp[Bh]
end
theorem aq.eq {R:cV->St->Prop} {x y:AV} {U:St} (h:R (.ret y) U) (e:x=y):aq R x U:=by subst e; exact aq.mk h
theorem Pure.go {C:de} {f:FuncId} {args:List AV} {x:AV} {K:AV->St->Prop} {Kp:AV->St->Prop} {U:St} (h:Pure C f args x) (hk:K x U):ae C f args U (ah K Kp):=h U _ hk
end Go.Rip
