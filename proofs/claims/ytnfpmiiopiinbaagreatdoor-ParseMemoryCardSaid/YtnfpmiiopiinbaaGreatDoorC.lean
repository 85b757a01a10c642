import Derived.Test.YtnfpmiiopiinbaaGreatDoorB
set_option linter.all false
namespace Go.Rip
open Go.RowKit
mutual
def flat:AV->Bool
 | .bool _|.int _ _|.str _|.bE|.af|.lK|.eY|.eu=>true
 | .iface _ v=>flat v
 | .agg l=>GI l
 | .az l=>GI l
 | _=>false
def GI:List AV->Bool
 | []=>true
 | x::xs=>flat x&&GI xs
end
variable {g:Gh}
mutual
def aB.flat{g':Gh}:∀(x:AV)(v:Value),flat x->aB g x v->aB g' x v
 | .bool _,_,_,hr=>hr
 | .int _ _,_,_,hr=>hr
 | .str _,_,_,hr=>hr
 | .bE,_,_,hr=>hr
 | .af,_,_,hr=>hr
 | .lK,_,_,hr=>hr
 | .eY,_,_,hr=>hr
 | .eu,_,_,hr=>hr
 | .iface t x,v,h,hr=>by
   simp only[Rip.flat]at h;simp only[aB]at hr ⊢;obtain⟨u,h1,h2⟩:=hr;exact⟨u,h1,aB.flat x u h h2⟩
 | .agg l,v,h,hr=>by
   simp only[Rip.flat]at h;simp only[aB]at hr ⊢;obtain⟨vs,h1,h2,h3⟩:=hr;exact⟨vs,h1,h2,aJ.flat l _ h h3⟩
 | .az l,v,h,hr=>by
   simp only[Rip.flat]at h;simp only[aB]at hr ⊢;obtain⟨vs,h1,h3⟩:=hr;exact⟨vs,h1,aJ.flat l _ h h3⟩
def aJ.flat{g':Gh}:∀(l:List AV)(vs:List Value),GI l->aJ g l vs->aJ g' l vs
 | [],vs,_,h=>by cases vs<;>simp_all [aJ]
 | x::xs,vs,h,hr=>by
   simp only[GI,cS]at h;simp only[aJ]at hr ⊢;obtain⟨v,vs',h1,h2,h3⟩:=hr;exact⟨v,vs',h1,aB.flat x v h.1 h2,aJ.flat xs vs' h.2 h3⟩
end
def ag.IH{C:dQ}{f:Nat}{args args0:List AV}{U:St}{R:bi}{x:AV}(d:Nat)(GV:∀i,closed (C.C2 i))
 (hw:∀g vs,aJ g (args.map (resolve d U)) vs->aJ g args0 vs) (hargs:cW args0) (hx:flat x) (h:Pure C f args0 x) (hR:R (.ret x) U):ag C f args U R:=by
 intro g w vs hs hG ha;have PI:=hs.He;let g0:Gh:={ base:=w.heap.size,w0:=w,place:=λ_=>none,du:=(g.all w).du,cY:=(g.all w).cY,res:=λ_=>false };have wS:bT g0 (cj ⟨.e,0⟩) w:={
  below:=Below.refl _ _
  le:=da _
  du:=λq o u hu=>Bi hs q o u hu
  cY:=λq es c hu=>zy hs q es c hu
  live:=λb x hb=>by cases hb
  apart:=λb b' x x' p p' hb=>by cases hb
  res:=λr hr=>by cases hr
  fin:=⟨0,λn hn=>by cases hn;rfl,λ_ _=>rfl⟩ }
 have TO:kz C g0:=⟨λi=>aB.closed (g:=g) (g':=g0) (λ_ _ _ h=>PI.du _ _ _ h) (λ_ _ h=>PI.cY _ _ h) _ _ (GV i) (hG.1 i),λi cs hi=>by
  obtain⟨k1,t,fr,k2⟩:=hG.2 i cs hi;refine⟨Nat.lt_of_lt_of_le k1 hs.le,t,fr,?_⟩;show w.heap[i]?=_;rw[hs.below.block i k1];exact k2⟩
 have ha0:aJ g0 args0 vs:=aJ.closed (g:=g.all w) (g':=g0) (λ_ _ _ h=>h) (λ_ _ h=>h) _ _ hargs (hw _ _ (F2 (λx v _ hr=>Ft hs d x v hr) ha));refine (h (cj ⟨.e,0⟩) (λr _=>r=.ret x) rfl g0 w vs wS TO ha0).mono ?_;rintro e w' hp;cases e with
 | panicked ch=>obtain⟨g',aa,y,v,_,_,_,_,hz⟩:=hp;cases hz
 | outgrown=>exact hp.elim
 | returned v =>
   obtain⟨g',aa,y,h1,h2,h3,hz⟩:=hp;cases hz;have ya:=h2.He;have hle:=h1.trans ya;have Bo:Below w.heap.size w w':=by
    have:=h2.below;rw[h1.base,h1.w0]at this;exact this
   let gF:Gh:={ base:=g.base,w0:=g.w0,place:=g.place,du:=g.du,cY:=g.cY,res:=g.res };have Mi:Gh.Le g gF:=⟨rfl,rfl,λ_ _ h=>h,λb o u hu=>hu,λb u hu=>hu,λ_ h=>h,λ_ _ _=>rfl,λ_ _=>rfl⟩;refine⟨gF,U,x,Mi,?_,aB.flat x v hx h3,hR⟩;exact {
    below:=hs.below.trans (Bo.mono hs.le)
    le:=Nat.le_trans hs.le Bo.size
    du:=λq o u hu=>Bi h2 q o u (hle.du _ _ _ (PI.du _ _ _ hu))
    cY:=λq es c hu=>zy h2 q es c (hle.cY _ _ (PI.cY _ _ hu))
    live:=λb l hb=>by
     obtain⟨p,k1,k2,k3⟩:=hs.live b l hb;have aA:=k3.lt;exact⟨p,k1,k2,k3.frame Mi.r (Bo.block _ aA) (λo=>rfl) rfl⟩
    apart:=hs.apart
    res:=λr hr=>by
     obtain⟨k1,k2⟩:=hs.res r hr;exact⟨k1,by rw[Bo.block _ (nN.1 k2).1];exact k2⟩
    fin:=hs.fin }
inductive Wk:List AV->List AV->Prop
 | nil:Wk [] []
 | bq (x:AV) {l l':List AV}:Wk l l'->Wk (x::l) (x::l')
 | drop (x:AV) {l l':List AV}:Wk l l'->Wk (.any::l) (x::l')
def Wk.rep{l l':List AV}(h:Wk l l'):∀{vs:List Value},aJ g l' vs->aJ g l vs:=by
 induction h with
 | nil=>exact λh=>h
 | bq x _ ih =>
   intro vs h;simp only[aJ]at h ⊢;obtain⟨u,us,h1,h2,h3⟩:=h;exact⟨u,us,h1,h2,ih h3⟩
 | drop x _ ih =>
   intro vs h;simp only[aJ]at h ⊢;obtain⟨u,us,h1,h2,h3⟩:=h;exact⟨u,us,h1,by simp only[aB],ih h3⟩
def Wk.dJ{l l' r:List AV}{vs:List Value}(h:Wk l l')(hr:aJ g (.dJ l'::r) vs):aJ g (.dJ l::r) vs:=by
 simp only[aJ,aB]at hr ⊢;obtain⟨u,us,h1,⟨aR,off,ws,h2,h3,h4⟩,h5⟩:=hr;exact⟨u,us,h1,⟨aR,off,ws,h2,h3,h.rep h4⟩,h5⟩
def Wk.any:∀(l:List AV),Wk (l.map λ_=>.any) l
 | []=>.nil
 | x::l=>.drop x (Wk.any l)
def bj(vt:Option (Bool×Nat))(p:AV)(U:St):aW :=
 match vt,o8 U p with
 | some (true,sz),some l=>.cond (sz<=l.length) (.val (.agg (l.take sz)))
 | some (false,_),some l=>kn l
 | _,_=>.bad
def dD(vt:Option (Bool×Nat))(p v:AV)(U:St):aW :=
 match vt,p with
 | some (_,sz),.box b off=>match U.box b with
   | some l=>.cond (v.dC/\(al v).length=sz/\off+sz<=l.length) (.kg (.az []) b (.box (ax l off (al v))))
   | none=>.bad
 | _,_=>.bad
def afW(t:TypeId)(z:Option (List AV)):aW :=
 match z with
 | some l=>Lq t l
 | none=>.bad
def cx(st:Option (List (Nat×Nat)))(z:Option (List AV))(at_:Option (Nat×TypeId×Nat))(parts:List (Nat×AV)):aW :=
 match st,z with
 | some pl,some z=>ja (λi=>pl[i]?) parts z λz=>.val (.agg z)
 | none,some z=>match at_ with
   | some (_,_,sz)=>ja (λi=>some (i*sz,sz)) parts z λz=>.val (.agg z)
   | none=>.bad
 | _,_=>.bad
def ai(sl:Option (TypeId×Nat))(z:Option (List AV))(n:Nat)(mu:Bool)(parts:List (Nat×AV)):aW :=
 match sl with
 | some (e,sz)=>match z with
   | some z=>.cond (n*sz<=16777216) (ja (λi=>some (i*sz,sz)) parts (bZ n z) λcs=>.cond (cs.length=n*sz) (if mu then .rJ n sz e none cs else .val (.vec n .full cs)))
   | none=>.bad
 | none=>.bad
def ff(mt:Option (FK×TypeId))(m k v:AV)(U:St):aW :=
 match mt,m with
 | some (fk,_),.mp id=>match U.mp id with
   | some (ks,vs)=>match ow fk k ks 0,sR fk k with
     | some none,true=>.kg (.az []) id (.mp (jG k v ks vs).1 (jG k v ks vs).2)
     | some (some i),true=>.kg (.az []) id (.mp ks (vs.set i v))
     | _,_=>.bad
   | none=>.bad
 | _,_=>.bad
def fK(mt:Option (FK×TypeId))(z:Option AV)(m k:AV)(ok:Bool)(U:St):aW :=
 match mt,mM U m with
 | some (fk,e),some (ks,vs)=>match z,sR fk k with
   | some z,true=>pM fk k z ok ks vs
   | _,_=>.bad
 | _,_=>.bad
def xh(it:Option IntKind)(is:Bool)(ss bs:Bool)(x:AV):aW :=
 match it,is,x with
 | some .i64,true,.int _ n=>.cond (xG n) (.val (.int .i64 n))
 | some k,true,.int _ n=>.val (.int k (k.wrap n))
 | none,true,.str s=>if ss=true then .val (.str s) else
   if bs=true then .cond (s.length<=4294967296) (.val (.vec s.length .lC (s.map λb=>.int .u8 b.toNat))) else .bad
 | _,_,_=>.bad
def eI(st:Bool)(sl:Option (TypeId×Nat))(x:AV)(lo hi:Option AV):aW :=
 match x with
 | .str s=>match st,fB 0 lo,fB s.length hi with
   | true,some l,some h=>.cond (0<=l/\l<=h/\h<=s.length) (.val (.str ((s.take h.toNat).drop l.toNat)))
   | _,_,_=>.bad
 | .vec n cap l=>match sl,fB 0 lo,fB n hi with
   | some (_,sz),some a,some b=>.cond (0<=a/\a<=b/\b<=n) (.val (.vec (b.toNat-a.toNat) (xg cap hi) ((l.take (b.toNat*sz)).drop (a.toNat*sz))))
   | _,_,_=>.bad
 | .af=>match sl,fB 0 lo,fB 0 hi with
   | some (_,_),some a,some b=>.cond (a=0/\b=0) (.val .af)
   | _,_,_=>.bad
 | .ms b off n lx e=>match sl,fB 0 lo,fB n hi with
   | some (_,sz),some a,some h=>.cond (0<=a/\a<=h/\h<=n/\(a<n\/a=0)/\lx=sz) (.val (.ms b (off+a.toNat*sz) (h.toNat-a.toNat) lx e))
   | _,_,_=>.bad
 | _=>.bad
def bu(ft:Option Nat)(p:AV):aW :=
 match ft,p with
 | some o,.box b off=>.val (.box b (off+o))
 | some o,.dJ l=>.val (.dJ (l.drop o))
 | _,_=>.bad
def wa(fv:Option (Nat×Bool×Nat))(x:AV):aW :=
 match fv,x with
 | some (o,true,n),.agg l=>.cond (o+n<=l.length) (.val (.agg ((l.drop o).take n)))
 | some (o,false,_),.agg l=>kn (l.drop o)
 | _,_=>.bad
def af0(at_:Option (Nat×TypeId×Nat))(x i:AV):aW :=
 match at_,x,i with
 | some (n,_,sz),.dJ l,.int _ j=>.cond (0<=j/\j<n) (.val (.dJ (l.drop (j.toNat*sz))))
 | some (n,_,sz),.box b off,.int _ j=>.cond (0<=j/\j<n) (.val (.box b (off+j.toNat*sz)))
 | _,_,_=>.bad
def bJ(sl:Option (TypeId×Nat))(at_:Option (Nat×TypeId×Nat))(x i:AV):aW :=
 match sl,x,i with
 | none,x,i=>af0 at_ x i
 | some (_,sz),.vec n _ l,.int _ j=>.cond (0<=j/\j<n) (.val (.dJ (l.drop (j.toNat*sz))))
 | some (_,sz),.ms b off n lx _,.int _ j=>.cond (0<=j/\j<n/\lx=sz) (.val (.box b (off+j.toNat*sz)))
 | _,_,_=>.bad
def fL(st:Bool)(at_:Option (Nat×TypeId×Nat))(vt:Option (Bool×Nat))(x i:AV):aW :=
 match x,i with
 | .str s,.int _ j=>if st=true then .cond (0<=j/\j<s.length) (.val (.int .u8 (s.getD j.toNat 0).toNat)) else .bad
 | .agg l,.int _ j=>match at_ with
   | some (n,e,sz)=>match vt with
     | some (false,_)=>.cond (0<=j/\j<n) (kn (l.drop (j.toNat*sz)))
     | some (true,k)=>.cond (0<=j/\j<n/\k=sz/\j.toNat*sz+sz<=l.length) (.val (.agg ((l.drop (j.toNat*sz)).take sz)))
     | none=>.bad
   | none=>.bad
 | _,_=>.bad
def BL(b:Bool)(t:TypeId)(x:AV):aW:=if b=true then .val (.iface t x) else .bad
def yq(mt:Option (FK×TypeId))(m:AV):aW :=
 match mt,m with
 | some _,.iK ks vs=>.new .it none (.iter (ks.zip vs) none)
 | _,_=>.bad
def zW(z:Option AV)(x:AV)(t:TypeId)(ok:Bool):aW :=
 match z,x with
 | some z,.iface u v=>if u=t then .val (if ok then .az [v,.bool true] else v) else if ok then .val (.az [z,.bool false]) else .bad
 | some z,.eu=>if ok then .val (.az [z,.bool false]) else .bad
 | _,_=>.bad
def xl(sl:Option (TypeId×Nat))(z:Option (List AV))(mu:Bool)(l c:AV):aW :=
 match sl,l,c with
 | some (e,sz),.int _ l,.int _ c=>match z with
   | some z=>.cond (0<=l/\l=c/\c<=65536) (if mu then .rJ l.toNat sz e none (bZ l.toNat z) else .qg l.toNat (bZ l.toNat z) none ⟨l.toNat,e,sz⟩)
   | none=>.bad
 | _,_,_=>.bad
def Gy(sl:Option (TypeId×Nat))(z:Option (List AV))(x:AV)(U:St):aW :=
 match sl,x with
 | some (e,sz),.ms b off n lx _=>match U.box b,z with
   | some l,some z=>.cond (lx=sz/\off+n*sz<=l.length) (.kg (.az []) b (.box (ax l off (bZ n z))))
   | _,_=>.bad
 | _,_=>.bad
def dK(lt:Option Bool)(x:AV):aW :=
 match lt,x with
 | some true,.str s=>.val (.int .i64 s.length)
 | some false,.vec n _ _=>.val (.int .i64 n)
 | some false,.ms _ _ n _ _=>.val (.int .i64 n)
 | some false,.af=>.val (.int .i64 0)
 | _,_=>.bad
def dH(ap:Option (TypeId×Nat))(mu:Bool)(s y:AV)(U:St):aW :=
 match ap,qD U y with
 | some (e,sz),some (m,l2) =>
   .cond (l2.length=m*sz) (match s with
   | .af=>if m=0 then .val .af else .cond (m<=4294967296) (if mu then .rJ m sz e none l2 else .qg m l2 none ⟨m,e,sz⟩)
   | .vec n .full l=>if m=0 then .val s else .cond (l.length=n*sz/\n+m<=4294967296) (.qg (n+m) (l++l2) none ⟨n+m,e,sz⟩)
   | .vec n (.own τ) l=>.cond (U.tok τ=some ⟨n,e,sz⟩/\l.length=n*sz/\n+m<=4294967296) (.qg (n+m) (l++l2) (some τ) ⟨n+m,e,sz⟩)
   | .ms b off n lx e'=>match U.box b with
     | some l=>.cond (off=0/\lx=sz/\e'=e/\n*sz<=l.length/\n+m<=4294967296) (.rJ (n+m) sz e (some b) (l.take (n*sz)++l2))
     | none=>.bad
   | _=>.bad)
 | _,_=>.bad
structure BT where
 b:Bool
 i:Bool
 p:Bool
 f:Option (List FK)
 s:Bool
def af6(P:Program)(t:TypeId):BT:=⟨AI P t,nI P t,pe P t,Rl P t,te P t⟩
def eqR(f:Option (List FK))(a b:List AV):Option Bool :=
 match f with
 | some ks=>rY ks a b
 | none=>none
def bU(op:BinOp)(bt:BT)(lit:Bool)(x y:AV):aW :=
 match op,x,y with
 | .eql,.eu,.eu=>if bt.i=true/\lit=true then .val (.bool true) else .bad
 | .neq,.eu,.eu=>if bt.i=true/\lit=true then .val (.bool false) else .bad
 | .add,.int k a,.int k' b=>if k=k' then kX k (a+b) else .bad
 | .sub,.int k a,.int k' b=>if k=k' then kX k (a-b) else .bad
 | .mul,.int k a,.int k' b=>if k=k' then kX k (a*b) else .bad
 | .quo,.int k a,.int k' b=>if k=k' then .cond (b≠0) (kX k (a.tdiv b)) else .bad
 | .rem,.int k a,.int k' b=>if k=k' then .cond (b≠0) (.val (.int k (a.tmod b))) else .bad
 | .and,.int k a,.int k' b=>if k=k' then .val (.int k (k.wrap (BitVec.ofInt k.bits a &&& BitVec.ofInt k.bits b).toNat)) else .bad
 | .or,.int k a,.int k' b=>if k=k' then .val (.int k (k.wrap (BitVec.ofInt k.bits a ||| BitVec.ofInt k.bits b).toNat)) else .bad
 | .eql,.int k a,.int k' b=>if k=k' then .val (.bool (a==b)) else .bad
 | .neq,.int k a,.int k' b=>if k=k' then .val (.bool (a != b)) else .bad
 | .lss,.int k a,.int k' b=>if k=k' then .val (.bool (decide (a<b))) else .bad
 | .leq,.int k a,.int k' b=>if k=k' then .val (.bool (decide (a<=b))) else .bad
 | .gtr,.int k a,.int k' b=>if k=k' then .val (.bool (decide (a > b))) else .bad
 | .geq,.int k a,.int k' b=>if k=k' then .val (.bool (decide (a>=b))) else .bad
 | .eql,.str a,.str b=>.val (.bool (a==b))
 | .neq,.str a,.str b=>.val (.bool (a != b))
 | .add,.str a,.str b=>.cond (a.length+b.length<=4294967296) (.val (.str (a++b)))
 | .eql,.bool a,.bool b=>if bt.b=true then .val (.bool (a==b)) else .bad
 | .neq,.bool a,.bool b=>if bt.b=true then .val (.bool (a != b)) else .bad
 | .eql,.agg a,.agg b=>zX .bool (eqR bt.f a b)
 | .neq,.agg a,.agg b=>zX (λr=>.bool (!r)) (eqR bt.f a b)
 | .eql,.iface _ _,.eu=>if bt.i=true then .val (.bool false) else .bad
 | .neq,.iface _ _,.eu=>if bt.i=true then .val (.bool true) else .bad
 | .eql,.bE,.bE=>if bt.p=true then .val (.bool true) else .bad
 | .eql,.box _ _,.bE=>if bt.p=true then .val (.bool false) else .bad
 | .neq,.bE,.bE=>if bt.p=true then .val (.bool false) else .bad
 | .neq,.box _ _,.bE=>if bt.p=true then .val (.bool true) else .bad
 | .eql,.dJ _,.bE=>if bt.p=true then .val (.bool false) else .bad
 | .neq,.dJ _,.bE=>if bt.p=true then .val (.bool true) else .bad
 | .eql,.af,.af=>if bt.s=true then .val (.bool true) else .bad
 | .eql,.vec _ _ _,.af=>if bt.s=true then .val (.bool false) else .bad
 | .eql,.ms _ _ _ _ _,.af=>if bt.s=true then .val (.bool false) else .bad
 | _,_,_=>.bad
def aep(P:Program)(op:BinOp)(t:TypeId)(lit:Bool)(x y:AV):bU op (af6 P t) lit x y=Lt P op t lit x y:=by
 unfold bU Lt Q2;cases op<;>cases x<;>cases y<;>rfl
def Bd(P:Program)(t:TypeId):Option (List AV):=match ig P t with
 | some (e,_)=>s8 P e
 | none=>none
def ac4(P:Program)(t:TypeId):Option (Bool×Nat):=match zz P t with
 | some (_,e,_)=>qE P e
 | none=>none
def aae(P:Program)(t:TypeId):Option AV:=match uf P t with
 | some (_,e)=>zeroV P e
 | none=>none
def aah(gt:Option (TypeId×Nat×List AV))(ap:Option (TypeId×Nat))(mu:Bool)(s y:AV)(U:St):aW :=
 match gt with
 | some q=>KW q mu s y
 | none=>dH ap mu s y U
def Q7(C:dQ)(mu:Bool)(c:Call)(ρ:Env)(U:St):aW :=
 match c.callee,c.argTypes.toList,c.args.toList with
 | .value (.func f),_,args=>if gP C.P f=true then .enter f (args.map (ρ.ev C)) else .bad
 | .value f,_,args=>kQ C.P (ρ.ev C f) (args.map (ρ.ev C))
 | .builtin .len,[t],[x]=>dK (RV C.P t) (ρ.ev C x)
 | .builtin .append,[t,u],[s,y]=>aah (GM C.P t u) (QY C.P t u) mu (ρ.ev C s) (ρ.ev C y) U
 | .builtin .cap,[t],[x]=>Lz (ig C.P t) (ρ.ev C x)
 | .builtin .min,_,[x,y]=>zM (ρ.ev C x) (ρ.ev C y)
 | .builtin .max,_,[x,y]=>FR (ρ.ev C x) (ρ.ev C y)
 | .builtin .clear,[t],[x]=>Gy (ig C.P t) (Bd C.P t) (ρ.ev C x) U
 | _,_,_=>.bad
def wT(C:dQ)(mu:Bool)(o:Op)(ρ:Env)(U:St):aW :=
 match o with
 | .move x|.assign x=>.val (ρ.ev C x)
 | .pick c a b=>fP (ρ.ev C c) (ρ.ev C a) (ρ.ev C b)
 | .alloc t=>afW t (s8 C.P t)
 | .box _ x=>CR (ρ.ev C x)
 | .build t parts=>cx (EG C.P t) (s8 C.P t) (zz C.P t) (pa C ρ parts)
 | .buildSlice t n parts=>ai (ig C.P t) (Bd C.P t) n mu (pa C ρ parts)
 | .insert t m k v|.mapUpdate t m k v=>ff (uf C.P t) (ρ.ev C m) (ρ.ev C k) (ρ.ev C v) U
 | .load t a=>bj (qE C.P t) (ρ.ev C a) U
 | .store t a v=>dD (qE C.P t) (ρ.ev C a) (ρ.ev C v) U
 | .nilCheck x=>jf (ρ.ev C x)
 | .binOp op t x y _=>bU op (af6 C.P t) (isLit x||isLit y) (ρ.ev C x) (ρ.ev C y)
 | .unOp op _ x=>yx op (ρ.ev C x)
 | .convert s d x=>xh (RJ C.P d) (C.P.underlying s).isSome (qe C.P d&&qe C.P s) (BA C.P d&&qe C.P s) (ρ.ev C x)
 | .makeInterface t x=>BL (Dx C.P t) t (ρ.ev C x)
 | .makeFunc fn first cap=>.val (.func fn (first.toList.map (ρ.ev C)) (cap.toList.map (ρ.ev C)))
 | .makeMap _ none=>.zc
 | .slice t x lo hi none=>eI (qe C.P t) (ig C.P t) (ρ.ev C x) (lo.map (ρ.ev C)) (hi.map (ρ.ev C))
 | .fieldAddr s x f=>bu (CZ C.P s f) (ρ.ev C x)
 | .field s x f=>wa (En C.P s f) (ρ.ev C x)
 | .indexAddr t x i=>bJ (ig C.P t) (zz C.P t) (ρ.ev C x) (ρ.ev C i)
 | .index t x i=>fL (qe C.P t) (zz C.P t) (ac4 C.P t) (ρ.ev C x) (ρ.ev C i)
 | .lookup t m k ok=>fK (uf C.P t) (aae C.P t) (ρ.ev C m) (ρ.ev C k) ok U
 | .extract t i=>jt (ρ.ev C t) i
 | .panic x=>yn (ρ.ev C x)
 | .range t m=>yq (uf C.P t) (ρ.ev C m)
 | .typeAssert x _ t ok=>zW (Eh C.P t) (ρ.ev C x) t ok
 | .makeSlice t l c=>xl (ig C.P t) (Bd C.P t) mu (ρ.ev C l) (ρ.ev C c)
 | .next i false=>vM (ρ.ev C i) U
 | .entry i=>o9 (ρ.ev C i) U
 | .call c=>Q7 C mu c ρ U
 | _=>.bad
def aam(C:dQ)(mu:Bool)(c:Call)(ρ:Env)(U:St):Q7 C mu c ρ U=Ek C mu c ρ U:=by
 unfold Q7 Ek;obtain⟨callee,⟨args⟩,⟨tys⟩⟩:=c;cases callee with
 | value f =>
   cases f<;>simp only[kQ,Env.ev,mQ,iM]
 | invoke r m=>rfl
 | builtin b =>
   cases b
   case clear =>
    dsimp only;rcases tys with _|⟨t,_|⟨u,_|_⟩⟩<;>rcases args with _|⟨x,_|⟨y,_|_⟩⟩<;>try rfl
    simp only[Gy,CU,Bd];generalize ρ.ev C x=y;cases h:ig C.P t with
    | none=>rfl
    | some es=>(cases es;cases y<;>rfl)
   all_goals first|rfl|(dsimp only;rcases tys with _|⟨t,_|⟨u,_|_⟩⟩<;>rcases args with _|⟨x,_|⟨y,_|_⟩⟩<;>rfl)
def sL(C:dQ)(mu:Bool)(o:Op)(ρ:Env)(U:St):wT C mu o ρ U=mj C mu o ρ U:=by
 cases o with
 | binOp op t x y yt=>exact aep _ _ _ _ _ _
 | call c=>exact aam _ _ _ _ _
 | buildSlice t n parts =>
   simp only[wT,mj,ai,vA,Bd];cases h:ig C.P t with
   | none=>rfl
   | some es=>(cases es;rfl)
 | index t x i =>
   simp only[wT,mj,fL,G7,ac4];generalize ρ.ev C x=y;generalize ρ.ev C i=z;cases h:zz C.P t with
   | none=>cases y<;>rfl
   | some es=>(cases es;cases y<;>cases z<;>rfl)
 | lookup t m k ok =>
   simp only[wT,mj,fK,AL,aae];generalize mM U (ρ.ev C m)=y;cases h:uf C.P t with
   | none=>rfl
   | some es=>(cases es;cases y<;>rfl)
 | makeSlice t l c =>
   simp only[wT,mj,xl,xk,Bd];generalize ρ.ev C l=y;generalize ρ.ev C c=z;cases h:ig C.P t with
   | none=>rfl
   | some es=>(cases es;cases y<;>cases z<;>rfl)
 | convert s d x =>
   simp only[wT,mj,xh,KU,cS];rfl
 | makeMap t r=>cases r<;>rfl
 | slice t x lo hi m=>cases m<;>rfl
 | next i b=>cases b<;>rfl
 | _=>rfl
def Fn:Nat->Type
 | 0=>St->Prop
 | n+1=>AV->Fn n
namespace Fn
def app:(n:Nat)->Fn n->List AV->St->Prop
 | 0,f,_,U=>f U
 | n+1,f,x::xs,U=>app n (f x) xs U
 | n+1,f,[],U=>app n (f .any) [] U
def lam:(n:Nat)->(List AV->St->Prop)->Fn n
 | 0,F=>λU=>F [] U
 | n+1,F=>λx=>lam n (λxs U=>F (x::xs) U)
def tp:∀(n:Nat)(F:List AV->St->Prop)(xs:List AV)(U:St),xs.length=n->app n (lam n F) xs U=F xs U
 | 0,F,[],U,_=>rfl
 | n+1,F,x::xs,U,h=>tp n (λxs U=>F (x::xs) U) xs U (by simpa using h)
 | 0,F,_::_,U,h=>by simp at h
 | n+1,F,[],U,h=>by simp at h
def imp:(n:Nat)->Fn n->Fn n->Prop
 | 0,f,g=>∀U,f U->g U
 | n+1,f,g=>∀x,imp n (f x) (g x)
def P0:∀{n:Nat}{f g:Fn n},imp n f g->∀(xs:List AV)(U:St),xs.length=n->app n f xs U->app n g xs U
 | 0,f,g,h,xs,U,_,hf=>h U hf
 | n+1,f,g,h,x::xs,U,hl,hf=>P0 (h x) xs U (by simpa using hl) hf
 | n+1,f,g,h,[],U,hl,hf=>by simp at hl
def Pf:∀{n:Nat}{f g:Fn n},(∀(xs:List AV)(U:St),xs.length=n->app n f xs U->app n g xs U)->imp n f g
 | 0,f,g,h=>λU hf=>h [] U rfl hf
 | n+1,f,g,h=>λx=>Pf λxs U hl hf=>h (x::xs) U (by simpa using hl) hf
end Fn
def Hg:List Nat->List AV->Nat->AV
 | s::ss,x::xs,t=>cond (Nat.beq t s) x (Hg ss xs t)
 | _,_,_=>.any
def Ic(live:List Nat)(vs:List AV):Env:=⟨Hg live vs⟩
def JY(f:Nat->AV)(t:Nat):∀live:List Nat,Hg live (live.map f) t=f t\/Hg live (live.map f) t=.any
 | []=>.inr rfl
 | s::ss=>by
   simp only[fh,Hg];cases h:Nat.beq t s with
   | true=>have:=gN h;subst this;exact .inl rfl
   | false=>exact JY f t ss
def Jg(ρ:Env)(live:List Nat)(t:Nat):(Ic live (live.map ρ.get)).get t=ρ.get t\/(Ic live (live.map ρ.get)).get t=.any:=JY ρ.get t live
section
variable {C:dQ}{nt:Nat}{ro:Ro}{U:St}{ρ:Env}
def cu.QM{c:Code}{Q:Ex->Env->St->Prop}{fI:Env}(h:cu C nt ro c Q fI U)(hw:∀t,fI.get t=ρ.get t\/fI.get t=.any):cu C nt ro c Q ρ U :=
 λg w a fr h1 h2 h3 h4 h5=>h g w a fr h1 h2 (λt=>by
  rcases hw t with e|e
  . rw[e];exact h3 t
  . rw[e];simp only[aB]) h4 h5
end
structure Qx where
 n:Env->St->Prop
 e:Nat->Env->St->Prop
 r:Env->St->Prop
 p:am
def Qx.q(Q:Qx):Ex->Env->St->Prop
 | .normal,ρ,U=>Q.n ρ U
 | .exit i,ρ,U=>Q.e i ρ U
 | .ret,ρ,U=>Q.r ρ U
 | .panic x,_,U=>Q.p x U
def ah6(ops:Array Oper)(j:Nat):Option Nat:=(ops[j]?).bind (·.dst)
def cq(v:AV)(want:Bool):AV:=match v with
 | .bool b=>.bool (b==want)
 | .az []=>.bool false
 | _=>.any
def LZ(ops:Array Oper)(ρ:Env)(jw:Nat×Bool):AV:=match ah6 ops jw.1 with
 | some d=>cq (ρ.get d) jw.2
 | none=>.any
def L5(ops:Array Oper)(ρ:Env)(jw:Nat×Bool):km ops ρ (some jw)=LZ ops ρ jw:=rfl
def IN(b:Bool)(v:AV):AV:=match b with
 | true=>v
 | false=>.az []
def gD(C:dQ)(b:Bool):aW->(AV->Prop)->Prop
 | .val v,k=>k (IN b v)
 | @aW.cond p _ r,k=>(b->p)/\gD C b r k
 | .enter f args,k=>∃v,(b->Pure C f args v)/\k (IN b v)
 | _,k=>b=false/\k (.az [])
def aI(C:dQ)(gv:AV)(r:aW)(k:AV->Prop):Prop:=match gv with
 | .bool b=>gD C b r k
 | _=>False
def Fp{C:dQ}:∀(r:aW){k:AV->Prop},gD C true r k->∃v,r.yv C v/\k v
 | .val v,k,h=>⟨v,rfl,h⟩
 | @aW.cond _ _ r,k,h=>let ⟨v,h1,h2⟩:=Fp r h.2;⟨v,⟨h.1 rfl,h1⟩,h2⟩
 | .enter _ _,k,h=>let ⟨v,h1,h2⟩:=h;⟨v,h1 rfl,h2⟩
 | .kg _ _ _,_,h=>by cases h.1
 | .new _ _ _,_,h=>by cases h.1
 | .ov _ _,_,h=>by cases h.1
 | .yield _ _,_,h=>by cases h.1
 | .panic _,_,h=>by cases h.1
 | .bad,_,h=>by cases h.1
def DI{C:dQ}:∀(r:aW){k:AV->Prop},gD C false r k->k (.az [])
 | .val v,k,h=>h
 | @aW.cond _ _ r,k,h=>DI r h.2
 | .enter _ _,k,h=>let ⟨v,h1,h2⟩:=h;h2
 | .kg _ _ _,_,h=>h.2
 | .new _ _ _,_,h=>h.2
 | .ov _ _,_,h=>h.2
 | .yield _ _,_,h=>h.2
 | .panic _,_,h=>h.2
 | .bad,_,h=>h.2
def DJ{C:dQ}{gv:AV}{r:aW}{k:AV->Prop}(h:aI C gv r k):(gv=.bool true/\∃v,r.yv C v/\k v)\/(gv=.bool false/\k (.az [])):=by
 cases gv<;>simp only[aI]at h
 rename_i b;cases b
 . exact .inr ⟨rfl,DI r h⟩
 . exact .inl ⟨rfl,Fp r h⟩
def ahc(pf:List Nat)(o:Op):Bool:=match o with
 | .call c=>match c.callee with
   | .value (.func f)=>pf.any λg=>Nat.beq g f
   | .value _=>false
   | _=>quiet o
 | o=>quiet o
def Im(C:dQ)(o:Op)(ρ:Env):Option AV:=match o with
 | .move x|.assign x=>some (ρ.ev C x)
 | .makeFunc fn first cap=>some (.func fn (first.toList.map (ρ.ev C)) (cap.toList.map (ρ.ev C)))
 | _=>none
def Er{C:dQ}{o:Op}{ρ:Env}{v:AV}(h:Im C o ρ=some v)(mu:Bool)(U:St):wT C mu o ρ U=.val v:=by
 unfold Im at h;split at h
 . cases h;rfl
 . cases h;rfl
 . cases h;rfl
 . cases h
def zO(C:dQ)(mu pf:List Nat)(ops:Array Oper):List Oper->Env->St->(Env->St->Prop)->(am)->Prop
 | [],ρ,U,K,_=>K ρ U
 | o::rest,ρ,U,K,Kp=>match o.guard with
   | none=>match Im C o.op ρ with
     | some v=>zO C mu pf ops rest (ρ.ga o.dst v) U K Kp
     | none=>(wT C (qC mu o) o.op ρ U).wp C U (λv U=>zO C mu pf ops rest (ρ.ga o.dst v) U K Kp) Kp
   | some jw=>match ahc pf o.op with
     | true=>aI C (LZ ops ρ jw) (wT C (qC mu o) o.op ρ U) (λv=>zO C mu pf ops rest (ρ.ga o.dst v) U K Kp)
     | false=>cX (LZ ops ρ jw) ((wT C (qC mu o) o.op ρ U).wp C U (λv U=>zO C mu pf ops rest (ρ.ga o.dst v) U K Kp) Kp)
       (zO C mu pf ops rest (ρ.ga o.dst (.az [])) U K Kp)
def AP{C:dQ}{mu pf:List Nat}{ops:Array Oper}{K:Env->St->Prop}{Kp:am}:∀(l:List Oper)(ρ:Env)(U:St),
 zO C mu pf ops l ρ U K Kp->sk C mu ops l ρ U K Kp
 | [],_,_,h=>h
 | o::rest,ρ,U,h=>by
   have step:∀{r:aW},r.wp C U (λv U=>zO C mu pf ops rest (ρ.ga o.dst v) U K Kp) Kp ->
    r.wp C U (λv aa=>sk C mu ops rest (ρ.ga o.dst v) aa K Kp) Kp:=λhr=>aW.wp_mono (λv aa hv=>AP rest _ _ hv) _ hr
   simp only[zO]at h;simp only[sk];show cX (km ops ρ o.guard) ((mj C (qC mu o) o.op ρ U).wp C U (λv aa=>sk C mu ops rest (ρ.ga o.dst v) aa K Kp) Kp) (sk C mu ops rest (ρ.ga o.dst (.az [])) U K Kp);rw[<-sL];cases hg:o.guard with
   | none =>
     rw[hg]at h;simp only at h;refine⟨λ_=>?_,λhf=>(by cases hf)⟩;split at h
     . rename_i v hv;rw[Er hv];exact AP rest _ _ h
     . exact step h
   | some jw =>
     rw[hg]at h;simp only at h;rw[L5];split at h
     . rcases DJ h with ⟨hb,v,hv,hk⟩|⟨hb,hk⟩
       . rw[hb];refine⟨λ_=>?_,λhf=>(by cases hf)⟩;exact aW.SY _ hv (AP rest _ _ hk)
       . rw[hb];exact⟨λhf=>(by cases hf),λ_=>AP rest _ _ hk⟩
     . cases hv:LZ ops ρ jw<;>rw[hv]at h<;>simp only[cX]at h ⊢
       exact⟨λe=>step (h.1 e),λe=>AP rest _ _ (h.2 e)⟩
def bC(C:dQ):aW->(AV->Prop)->Prop
 | .val v,k=>k v
 | @aW.cond p _ r,k=>p/\bC C r k
 | .enter f args,k=>∃v,Pure C f args v/\k v
 | _,_=>False
def Ka{C:dQ}:∀(r:aW){k:AV->Prop},bC C r k->∃v,r.yv C v/\k v
 | .val v,k,h=>⟨v,rfl,h⟩
 | @aW.cond _ _ r,k,h=>let ⟨v,h1,h2⟩:=Ka r h.2;⟨v,⟨h.1,h1⟩,h2⟩
 | .enter _ _,k,h=>h
 | .kg _ _ _,_,h=>h.elim
 | .new _ _ _,_,h=>h.elim
 | .ov _ _,_,h=>h.elim
 | .yield _ _,_,h=>h.elim
 | .panic _,_,h=>h.elim
 | .bad,_,h=>h.elim
def GS(C:dQ)(ρ:Env)(o:Op):List Nat:=o.operands.toList.flatMap λx=>cB (ρ.ev C x)
def rdW(b:Bool)(P k:Prop):Prop:=match b with
 | true=>P/\k
 | false=>k
def ixW(b:Bool)(P k:Prop):Prop:=match b with
 | true=>k
 | false=>P/\k
def UF{ops:Array Oper}{i:Nat}{I:St->Prop}{U:St}{k:Prop}(h:ixW (vU ops i) (I U) k):Ix ops I i U/\k:=by
 unfold Ix;cases ha:vU ops i<;>rw[ha]at h<;>simp only[ixW]at h
 . exact⟨.inr h.1,h.2⟩
 . exact⟨.inl (by unfold qL;rw[ha];rfl),h⟩
def DK(C:dQ)(ops:Array Oper)(ρ:Env)(g:Option (Nat×Bool))(i:Option AV)(r:aW)(k:AV->Prop):Prop:=match g with
 | none=>match i with
   | some v=>k v
   | none=>bC C r k
 | some jw=>aI C (LZ ops ρ jw) r k
def gW(ops:Array Oper)(ρ:Env)(g:Option (Nat×Bool))(A B:Prop):Prop:=match g with
 | none=>A
 | some jw=>cX (LZ ops ρ jw) A B
def rM(C:dQ)(mu:List Nat)(ops:Array Oper)(aj:St)(K:Env->St->Prop)(Kp:am)(B:List Nat):List (Bool×Nat)->Env->St->Prop
 | [],ρ,U=>K ρ U
 | (true,i)::r,ρ,U=>match ops[i]? with
   | none=>False
   | some o=>match quiet o.op with
     | false=>False
     | true=>rdW (rQ o.op) (∀b∈GS C ρ o.op,b∈B) (DK C ops ρ o.guard (Im C o.op ρ) (wT C (qC mu o) o.op ρ aj) λv=>rM C mu ops aj K Kp B r (ρ.ga o.dst v) U)
 | (false,i)::r,ρ,U=>match ops[i]? with
   | none=>False
   | some o=>gW ops ρ o.guard ((wT C (qC mu o) o.op ρ U).wp C U (λv U=>ixW (vU ops i) (dR B aj U) (rM C mu ops aj K Kp B r (ρ.ga o.dst v) U)) Kp)
      (rM C mu ops aj K Kp B r (ρ.ga o.dst (.az [])) U)
def K8(C:dQ)(mu:List Nat)(ops:Array Oper)(aj:St)(K:Env->St->Prop)(Kp:am):List (Bool×Nat)->List Nat->Env->St->Prop
 | [],_,ρ,U=>K ρ U
 | (true,i)::r,B,ρ,U=>match ops[i]? with
   | none=>False
   | some o=>match quiet o.op with
     | false=>False
     | true=>DK C ops ρ o.guard (Im C o.op ρ) (wT C (qC mu o) o.op ρ aj) λv=>K8 C mu ops aj K Kp r (match rQ o.op with|true=>GS C ρ o.op++B|false=>B) (ρ.ga o.dst v) U
 | (false,i)::r,B,ρ,U=>rM C mu ops aj K Kp B ((false,i)::r) ρ U
def BS(C:dQ)(mu:List Nat)(ops:Array Oper)(aj:St)(K:Env->St->Prop)(Kp:am):List (Bool×Nat)->Env->St->Prop
 | [],ρ,U=>K ρ U
 | (true,i)::r,ρ,U=>match ops[i]? with
   | none=>False
   | some o=>match quiet o.op with
     | false=>False
     | true=>DK C ops ρ o.guard (Im C o.op ρ) (wT C (qC mu o) o.op ρ aj) λv=>BS C mu ops aj K Kp r (ρ.ga o.dst v) U
 | (false,i)::r,ρ,U=>match qL ops i,ops[i]? with
   | true,some o=>gW ops ρ o.guard ((wT C (qC mu o) o.op ρ U).wp C U (λv U=>BS C mu ops aj K Kp r (ρ.ga o.dst v) U) Kp) (BS C mu ops aj K Kp r (ρ.ga o.dst (.az [])) U)
   | _,_=>False
section
variable {C:dQ}{mu:List Nat}{ops:Array Oper}{aj:St}{K:Env->St->Prop}{Kp:am}
def FJ{ρ:Env}{g:Option (Nat×Bool)}{A B:Prop}(h:gW ops ρ g A B):(km ops ρ g=.bool true/\A)\/(km ops ρ g=.bool false/\B):=by
 unfold gW at h;cases g with
 | none=>exact .inl ⟨rfl,h⟩
 | some jw =>
   simp only at h;rw[L5];cases hv:LZ ops ρ jw<;>rw[hv]at h<;>simp only[cX]at h
   rename_i b;cases b
   . exact .inr ⟨rfl,h.2 rfl⟩
   . exact .inl ⟨rfl,h.1 rfl⟩
def yo{ρ:Env}{g:Option (Nat×Bool)}{i:Option AV}{r:aW}{k:AV->Prop}(hi:∀v,i=some v->r=.val v)(h:DK C ops ρ g i r k):(km ops ρ g=.bool true/\∃v,r.yv C v/\k v)\/(km ops ρ g=.bool false/\k (.az [])):=by
 unfold DK at h;cases g with
 | none =>
   cases i with
   | none=>exact .inl ⟨rfl,Ka r h⟩
   | some v=>rw[hi v rfl];exact .inl ⟨rfl,v,rfl,h⟩
 | some jw=>simp only at h;rw[L5];exact DJ h
def Bq{ρ:Env}{o:Op}{x:Operand}(hx:x∈o.operands.toList){b:Nat}(hb:b∈cB (ρ.ev C x)):b∈GS C ρ o:=List.mem_flatMap.2 ⟨x,hx,hb⟩
def tI(B:List Nat):∀(l:List (Bool×Nat))(ρ:Env)(U:St),rM C mu ops aj K Kp B l ρ U->oz C mu ops B aj K Kp l ρ U
 | [],_,_,h=>h
 | (true,i)::r,ρ,U,h=>by
   simp only[rM]at h;split at h
   . exact h.elim
   . rename_i o ho;split at h
     . exact h.elim
     . rename_i hq;have key:∀{P k:Prop},rdW (rQ o.op) P k->(rQ o.op->P)/\k:=λ{P k}h=>by
        cases hr:rQ o.op<;>rw[hr]at h<;>simp only[rdW]at h
        . exact⟨λh=>(by cases h),h⟩
        . exact⟨λ_=>h.1,h.2⟩
       obtain⟨hB,h⟩:=key h;rcases yo (λv hv=>Er hv _ _) h with ⟨hg,v,hv,hk⟩|⟨hg,hk⟩
       . rw[sL]at hv;exact⟨o,v,ho,.inl ⟨hg,hq,λhr x hx b hb=>hB hr b (Bq hx hb),hv⟩,tI B r _ _ hk⟩
       . exact⟨o,.az [],ho,.inr ⟨hg,rfl⟩,tI B r _ _ hk⟩
 | (false,i)::r,ρ,U,h=>by
   simp only[rM]at h;simp only[oz,nX];split at h
   . exact h.elim
   . rename_i o ho;rw[ho];simp only;rw[sL]at h;rcases FJ h with ⟨hg,h⟩|⟨hg,h⟩
     . rw[hg];exact⟨λ_=>aW.wp_mono (λv U hv=>⟨(UF (I:=dR B aj) hv).1,tI B r _ _ (UF (I:=dR B aj) hv).2⟩) _ h,λh=>by cases h⟩
     . rw[hg];exact⟨λh=>(by cases h),λ_=>tI B r _ _ h⟩
def ID:∀(l:List (Bool×Nat))(B:List Nat)(ρ:Env)(U:St),K8 C mu ops aj K Kp l B ρ U->∃B',(∀b∈B,b∈B')/\oz C mu ops B' aj K Kp l ρ U
 | [],B,_,_,h=>⟨B,λ_ h=>h,h⟩
 | (true,i)::r,B,ρ,U,h=>by
   simp only[K8]at h;split at h
   . exact h.elim
   . rename_i o ho;split at h
     . exact h.elim
     . rename_i hq;rcases yo (λv hv=>Er hv _ _) h with ⟨hg,v,hv,hk⟩|⟨hg,hk⟩
       . rw[sL]at hv;obtain⟨B',hB,hA⟩:=ID r _ _ _ hk;refine⟨B',λb hb=>hB b ?_,o,v,ho,.inl ⟨hg,hq,λhr x hx b hb=>hB b ?_,hv⟩,hA⟩
         . split
           . exact List.mem_append_right _ hb
           . exact hb
         . rw[hr];exact List.mem_append_left _ (Bq hx hb)
       . obtain⟨B',hB,hA⟩:=ID r _ _ _ hk;refine⟨B',λb hb=>hB b ?_,o,.az [],ho,.inr ⟨hg,rfl⟩,hA⟩;split
         . exact List.mem_append_right _ hb
         . exact hb
 | (false,i)::r,B,ρ,U,h=>⟨B,λ_ h=>h,tI B _ _ _ h⟩
end
def K3:List (Bool×Nat)->Bool
 | []=>true
 | (true,_)::r=>K3 r
 | (false,_)::r=>r.isEmpty
def IC{C:dQ}{mu:List Nat}{ops:Array Oper}{aj:St}{K:Env->St->Prop}{Kp:am}:∀(l:List (Bool×Nat))(B:List Nat)(ρ:Env)(U:St),K3 l->BS C mu ops aj K Kp l ρ U->∃B',(∀b∈B,b∈B')/\oz C mu ops B' aj K Kp l ρ U
 | [],B,_,_,_,h=>⟨B,λ_ h=>h,h⟩
 | (true,i)::r,B,ρ,U,hl,h=>by
   simp only[BS]at h;split at h
   . exact h.elim
   . rename_i o ho;split at h
     . exact h.elim
     . rename_i hq;rcases yo (λv hv=>Er hv _ _) h with ⟨hg,v,hv,hk⟩|⟨hg,hk⟩
       . rw[sL]at hv;obtain⟨B',hB,hA⟩:=IC r (GS C ρ o.op++B) _ _ hl hk;exact⟨B',λb hb=>hB b (List.mem_append_right _ hb),o,v,ho,.inl ⟨hg,hq,λhr x hx b hb=>hB b (List.mem_append_left _ (Bq hx hb)),hv⟩,hA⟩
       . obtain⟨B',hB,hA⟩:=IC r B _ _ hl hk;exact⟨B',hB,o,.az [],ho,.inr ⟨hg,rfl⟩,hA⟩
 | (false,i)::r,B,ρ,U,hl,h=>by
   obtain rfl:r=[]:=by simpa [K3] using hl
   refine⟨B,λ_ h=>h,?_⟩;simp only[BS]at h;simp only[oz,nX];split at h
   . rename_i o PI ho;rw[ho];simp only;rw[sL]at h;rcases FJ h with ⟨hg,h⟩|⟨hg,h⟩
     . rw[hg];exact⟨λ_=>aW.wp_mono (λv U hv=>⟨.inl PI,hv⟩) _ h,λh=>by cases h⟩
     . rw[hg];exact⟨λh=>(by cases h),λ_=>h⟩
   . exact h.elim
def DC(C:dQ)(mu:List Nat)(ops:Array Oper)(aj:St)(Kp:am)(B:List Nat)(o:Oper)(K:Env->St->Prop)(ρ:Env)(U:St):Prop :=
 gW ops ρ o.guard ((wT C (qC mu o) o.op ρ U).wp C U (λv U=>dR B aj U/\K (ρ.ga o.dst v) U) Kp) (K (ρ.ga o.dst (.az [])) U)
def SP(C:dQ)(mu:List Nat)(ops:Array Oper)(aj:St)(K:Env->St->Prop)(Kp:am)(B:List Nat)(i j:Nat)(post:List (Bool×Nat))(ρ:Env)(U:St):Prop:=match ops[i]?,ops[j]? with
 | some oi,some oj=>DC C mu ops aj Kp B oi (λρ U=>DC C mu ops aj Kp B oj (λρ U=>rM C mu ops aj K Kp B post ρ U) ρ U) ρ U /\
    DC C mu ops aj Kp B oj (λρ U=>DC C mu ops aj Kp B oi (λρ U=>rM C mu ops aj K Kp B post ρ U) ρ U) ρ U
 | _,_=>False
def SO(ops:Array Oper)(pre:List (Bool×Nat))(i j:Nat)(post:List (Bool×Nat)):Bool :=
 (match rk ops pre (Array.replicate ops.size false) with
   | some l=>(Region.ready .any ops l==[i,j])&&((Region.ready .any ops (l.setIfInBounds i true)==[j])&&((Region.ready .any ops (l.setIfInBounds j true)==[i])&&(!Nat.beq i j&&kM ops post ((l.setIfInBounds i true).setIfInBounds j true))))
   | none=>false)&&Nat.beq (pre.length+(post.length+2)) ops.size
section
variable {C:dQ}{mu:List Nat}{ops:Array Oper}{aj:St}{K:Env->St->Prop}{Kp:am}{B:List Nat}
def J7{i:Nat}{o:Oper}{K0 K1:Env->St->Prop}{I':St->Prop}(ho:ops[i]?=some o)(hI:∀U,dR B aj U->I' U)(hk:∀ρ U,dR B aj U->K0 ρ U->K1 ρ U){ρ:Env}{U:St}(hs:dR B aj U)(h:DC C mu ops aj Kp B o K0 ρ U):nX C mu ops I' i K1 Kp ρ U:=by
 unfold nX;rw[ho];dsimp only;unfold DC at h;rw[sL]at h;rcases FJ h with ⟨hg,h⟩|⟨hg,h⟩
 . rw[hg];exact⟨λ_=>aW.wp_mono (λv U hv=>⟨hI _ hv.1,hk _ _ hv.1 hv.2⟩) _ h,λh=>by cases h⟩
 . rw[hg];exact⟨λh=>(by cases h),λ_=>hk _ _ hs h⟩
def afL{i j:Nat}{post:List (Bool×Nat)}{tS:Array Bool}(h1:Region.ready .any ops tS=[i,j])(h2:Region.ready .any ops (tS.setIfInBounds i true)=[j])(h3:Region.ready .any ops (tS.setIfInBounds j true)=[i])(eF:i≠j)
 (h4:kM ops post ((tS.setIfInBounds i true).setIfInBounds j true)) {ρ:Env} {U:St} (hD:Dn ops tS) (hI:dR B aj U) (h:SP C mu ops aj K Kp B i j post ρ U):o7 C mu ops (dR B aj) K Kp (post.length+2) tS ρ U:=by
 unfold SP at h;split at h
 . rename_i oi oj E9 qZ;have key:∀(a b:Nat)(oa ob:Oper),ops[a]?=some oa->ops[b]?=some ob->a∈Region.ready .any ops tS->Region.ready .any ops (tS.setIfInBounds a true)=[b]->kM ops post ((tS.setIfInBounds a true).setIfInBounds b true) ->
    DC C mu ops aj Kp B oa (λρ U=>DC C mu ops aj Kp B ob (λρ U=>rM C mu ops aj K Kp B post ρ U) ρ U) ρ U ->
    nX C mu ops (Ix ops (dR B aj) a) a (o7 C mu ops (dR B aj) K Kp (post.length+1) (tS.setIfInBounds a true)) Kp ρ U:=by
    intro a b oa ob hoa hob hra PM oy hw;refine J7 hoa (λ_ h=>.inr h) (λρ1 aK yd hw1=>?_) hI hw;refine⟨λh0=>(by rw[PM]at h0;cases h0),λc hc=>?_⟩;have Jr:=hc;rw[PM,lT]at hc;subst hc;exact J7 hob (λ_ h=>.inr h) (λuF aV ua PU=>wo post _ uF aV oy ((hD.set hra).set Jr) (.inr ua) (tI B _ _ _ PU)) yd hw1
   refine⟨λh0=>(by rw[h1]at h0;cases h0),λc hc=>?_⟩;have Jr:=hc;rw[h1]at hc;simp only[dy,List.not_mem_nil,or_false]at hc;rcases hc with rfl|rfl
   . exact key _ _ _ _ E9 qZ Jr h2 h4 h.1
   . exact key _ _ _ _ qZ E9 Jr h3 (by rw[Array.setIfInBounds_comm _ _ eF.symm];exact h4) h.2
 . exact h.elim
def xe{I:St->Prop}{Kp Ci:am}(hp:∀v U,Kp v U->Ci v U):∀(n:Nat)(listed:Array Bool)(ρ:Env)(U:St),o7 C mu ops I K Kp n listed ρ U->o7 C mu ops I K Ci n listed ρ U
 | 0,_,_,_,h=>h
 | n+1,listed,ρ,U,h=>⟨h.1,λi hi=>by
   have h2:=h.2 i hi;unfold nX at h2 ⊢;split
   . rename_i ho;rw[ho]at h2;exact xe hp n _ _ _ h2
   . rename_i o ho;rw[ho]at h2;dsimp only at h2 ⊢;cases hg:km ops ρ o.guard<;>rw[hg]at h2<;>simp only[cX]at h2 ⊢
     exact⟨λe=>aW.wp_mono (λv U hv=>⟨hv.1,xe hp n _ _ _ hv.2⟩) _ (aW.Gq hp _ (h2.1 e)),λe=>xe hp n _ _ _ (h2.2 e)⟩⟩
def cu.Vv{nt id:Nat}{ro:Ro}{Q:Ex->Env->St->Prop}{ρ:Env}{U:St}(pre:List (Bool×Nat))(i j:Nat)(post:List (Bool×Nat))(hm:C.P.follows .mixedOrders)(dG:nW nt ops)(hp:SO ops pre i j post)(hkp:∀v U,Kp v U->Cj Q v U)
 (h:rM C mu ops U (λfI aa=>SP C mu ops U (KQ Q) Kp B i j post fI aa) Kp B pre ρ U):cu C nt ro (.region id ops true) Q ρ U:=by
 simp only[SO,cS]at hp;obtain⟨h1,h2⟩:=hp;have h2:=gN h2;split at h1
 . rename_i l hl;simp only[cS,beq_iff_eq,Bool.not_eq_true']at h1;obtain⟨k1,k2,k3,k4,k5⟩:=h1;have eF:i≠j:=λe=>by subst e;simp at k4
   refine cu.DN mu (dR B U) hm dG (xe hkp _ _ _ _ ?_);have:=BR (λfI aa hD hI hw=>afL k1 k2 k3 eF k5 hD hI hw) pre _ ρ U hl (Dn.none _ _) (λ_ _=>rfl) (tI B _ _ _ h);rw[h2]at this;exact this
 . cases h1
end
structure Qr where
 Qe:(St->Prop)->St->Prop
 n:St->Prop
 e:Nat->St->Prop
 r:St->Prop
def wN:Nat->Type
 | 0=>Qr->St->Prop
 | n+1=>AV->wN n
def wN.app:(n:Nat)->wN n->List AV->Qr->St->Prop
 | 0,f,_,q,U=>f q U
 | n+1,f,x::xs,q,U=>wN.app n (f x) xs q U
 | n+1,f,[],q,U=>wN.app n (f .any) [] q U
def wN.lam:(n:Nat)->(List AV->Qr->St->Prop)->wN n
 | 0,F=>λq U=>F [] q U
 | n+1,F=>λx=>wN.lam n (λxs q U=>F (x::xs) q U)
def wN.tp:∀(n:Nat)(F:List AV->Qr->St->Prop)(xs:List AV)(q:Qr)(U:St),xs.length=n->wN.app n (wN.lam n F) xs q U=F xs q U
 | 0,F,[],q,U,_=>rfl
 | n+1,F,x::xs,q,U,h=>wN.tp n (λxs U=>F (x::xs) U) xs q U (by simpa using h)
 | 0,F,_::_,q,U,h=>by simp at h
 | n+1,F,[],q,U,h=>by simp at h
def iu.st(L:iu)(s:LoopState)(p:Option Code):iu:={ L with state:=s,iL:=p }
def akg(o:Nat)(k:St->Prop)(U:St):Prop:=∃L,U.loop o=some L/\L.state=.ready/\k (U.set o (.loop { L with state:=.busy }))
def akm(o:Nat)(R:bi):Qr where
 Qe:=akg o
 n:=λU=>∃L,U.loop o=some L/\R (.ret (.bool true)) (U.set o (.loop { L with state:=.ready,iL:=none }))
 e:=λid U=>∃L,U.loop o=some L/\R (.ret (.bool false)) (U.set o (.loop { L with state:=.done,iL:=some (.exit id) }))
 r:=λU=>∃L,U.loop o=some L/\R (.ret (.bool false)) (U.set o (.loop { L with state:=.done,iL:=some .ret }))
def Np(o:Nat)(Kn:St->Prop)(Ke:Nat->St->Prop)(Kr:St->Prop)(Kp:am):bi
 | .ret _,aa=>∃L,aa.loop o=some L/\L.state≠.busy/\(match L.iL with
   | none=>Kn (aa.del o)
   | some .ret=>Kr (aa.del o)
   | some (.exit id)=>Ke id (aa.del o)
   | _=>False)
 | .panic x,aa=>Kp x aa
def AR(C:dQ)(np:Nat)(fv:AV)(U:St)(B:wN np)(Kn:St->Prop)(Ke:Nat->St->Prop)(Kr:St->Prop)(Kp:am):Prop :=
 match fv with
 | .func (.func lV) first cap=>gP C.P lV/\∀(o:Nat)(L:iu),U.eO o->L.state=.ready->L.iL=none ->
   (∀(args:List AV)(aK:St)(R:bi)(L1:iu),args.length=np->aK.loop o=some L1->L1.st .ready none=L->wN.app np B args (akm o R) aK->o6 C o args aK R) ->
   ag C lV (first++[.uK o]++cap) (U.new o (.loop L)) (Np o Kn Ke Kr Kp)
 | _=>False
def exW(b:Bool)(A B:Prop):Prop:=match b with
 | true=>A
 | false=>B
def rI(n:Nat)(J:Fn n)(B:Fn n->Prop):Prop:=∀j:Fn n,Fn.imp n J j->B j
def nh(n:Nat)(init:List AV)(U:St)(B:Fn n->Fn n):Prop :=
 ∃I:Nat->Fn n,(∃m,Fn.app n (I m) init U)/\∀m,Fn.imp n (I m) (B (Fn.lam n λvs U=>∃m',m'<m/\Fn.app n (I m') vs U))
inductive An where
 | z
 | sq (live:Option (List Nat)) (a b:An)
 | cd (a b:An)
 | bk (a:An)
 | lp (live:List Nat) (a:An)
 | rg (mu pf:List Nat) (ey:Option Pl)
 | rb (mu:List Nat) (ey:Pl)
 | rl (mu:List Nat) (ey:Pl)
 | r2 (mu:List Nat) (pre:List (Bool×Nat)) (i j:Nat) (post:List (Bool×Nat))
 | rf (a b:An)
def qj(C:dQ):Code->An->Qx->Env->St->Prop
 | .skip,_,Q,ρ,U=>Q.n ρ U
 | .exit i,_,Q,ρ,U=>Q.e i ρ U
 | .ret,_,Q,ρ,U=>Q.r ρ U
 | .seq a b,.sq none x y,Q,ρ,U=>qj C a x { Q with n:=λρ U=>qj C b y Q ρ U } ρ U
 | .seq a b,.sq (some live) x y,Q,ρ,U=>rI live.length (Fn.lam live.length λvs U=>qj C b y Q (Ic live vs) U)
    λj=>qj C a x { Q with n:=λρ U=>Fn.app live.length j (live.map ρ.get) U } ρ U
 | .cond c a b,.cd x y,Q,ρ,U=>cX (ρ.ev C c) (qj C a x Q ρ U) (qj C b y Q ρ U)
 | .block i a,.bk x,Q,ρ,U=>qj C a x { Q with e:=λk ρ U=>exW (Nat.beq k i) (Q.n ρ U) (Q.e k ρ U) } ρ U
 | .loop a,.lp live x,Q,ρ,U=>nh live.length (live.map ρ.get) U λlp=>Fn.lam live.length λvs U =>
    qj C a x { Q with n:=λρ U=>Fn.app live.length lp (live.map ρ.get) U } (Ic live vs) U
 | .region _ ops false,.rg mu pf none,Q,ρ,U=>zO C mu pf ops ops.toList ρ U Q.n Q.p
 | .region _ ops true,.rg mu pf (some ey),Q,ρ,U=>K8 C mu ops U Q.n Q.p ey.steps [] ρ U
 | .region _ ops true,.rb mu ey,Q,ρ,U=>∃B:List Nat,rM C mu ops U Q.n Q.p B ey.steps ρ U
 | .region _ ops true,.rl mu ey,Q,ρ,U=>BS C mu ops U Q.n Q.p ey.steps ρ U
 | .region _ ops true,.r2 mu pre i j post,Q,ρ,U=>∃B:List Nat,rM C mu ops U (λfI aa=>SP C mu ops U Q.n Q.p B i j post fI aa) Q.p B pre ρ U
 | .rangeFunc f ps a b,.rf x y,Q,ρ,U=>AR C ps.size (ρ.ev C f) U (wN.lam ps.size λargs qr U=>qj C a x
    { n:=λρ U=>qr.Qe (λU=>qj C b y { n:=λ_ U=>qr.n U,e:=λi _ U=>qr.e i U,r:=λ_ U=>qr.r U,p:=λ_ _=>False } ρ U) U,e:=λ_ _ _=>False,r:=λ_ _=>False,p:=λ_ _=>False }
    ⟨BY ρ.get ps.toList args⟩ U) (λU=>Q.n ρ U) (λi U=>Q.e i ρ U) (λU=>Q.r ρ U) (λx U=>Q.p x U)
 | _,_,_,_,_=>False
def oU(nt:Nat):Bool->Code->An->Bool
 | _,.skip,_=>true
 | _,.exit _,_=>true
 | _,.ret,_=>true
 | top,.seq a b,.sq _ x y=>oU nt top a x&&oU nt top b y
 | top,.cond _ a b,.cd x y=>oU nt top a x&&oU nt top b y
 | top,.block _ a,.bk x=>oU nt top a x
 | top,.loop a,.lp _ x=>oU nt top a x
 | _,.region _ ops false,.rg _ _ none=>nW nt ops
 | _,.region _ ops true,.rg _ _ (some ey)=>nW nt ops&&Nh ops ey
 | _,.region _ ops true,.rb _ ey=>nW nt ops&&Nh ops ey
 | _,.region _ ops true,.rl _ ey=>nW nt ops&&(Nh ops ey&&K3 ey.steps)
 | _,.region _ ops true,.r2 _ pre i j post=>nW nt ops&&SO ops pre i j post
 | top,.rangeFunc _ ps a b,.rf x y=>top&&ps.toList.all (λt=>Nat.blt t nt)&&oU nt false a x&&oU nt false b y
 | _,_,_=>false
def D9{C:dQ}{nt:Nat}(hm:C.P.follows .mixedOrders):∀(c:Code)(an:An)(top:Bool)(ro:Ro)(Q:Qx)(ρ:Env)(U:St),oU nt top c an=true->(top=true->ro=.fn) ->
 qj C c an Q ρ U->cu C nt ro c Q.q ρ U:=by
 intro c
 induction c with
 | skip=>intro an top ro Q ρ U dG ht h;exact cu.skip h
 | exit i=>intro an top ro Q ρ U dG ht h;exact cu.exit h
 | ret=>intro an top ro Q ρ U dG ht h;exact cu.ret h
 | seq a b Dg PY =>
   intro an top ro Q ρ U dG ht h;cases an<;>simp only[oU,bW,cS]at dG
   rename_i live x y;refine cu.seq ?_;cases live with
   | none =>
     simp only[qj]at h;refine (Dg x top ro _ ρ U dG.1 ht h).mono λe ρ U he=>?_;cases e<;>first|exact PY y top ro Q ρ U dG.2 ht he|exact he
   | some live =>
     simp only[qj]at h;have:=h (Fn.lam live.length λvs U=>cu C nt ro b Q.q (Ic live vs) U) (Fn.Pf λxs U hl hx=>by
      rw[Fn.tp _ _ _ _ hl]at hx ⊢;exact PY y top ro Q _ _ dG.2 ht hx)
     refine (Dg x top ro _ ρ U dG.1 ht this).mono λe ρ U he=>?_;cases e with
     | normal =>
       have n6:Fn.app live.length (Fn.lam live.length λvs U=>cu C nt ro b Q.q (Ic live vs) U) (live.map ρ.get) U:=he;rw[Fn.tp _ _ _ _ d8]at n6;exact cu.QM n6 (Jg ρ live)
     | exit i=>exact he
     | ret=>exact he
     | panic x=>exact he
 | cond c a b Dg PY =>
   intro an top ro Q ρ U dG ht h;cases an<;>simp only[oU,bW,cS]at dG
   rename_i x y;simp only[qj]at h;cases hc:ρ.ev C c<;>rw[hc]at h<;>simp only[cX]at h
   exact cu.cond hc (λe=>Dg x top ro Q ρ U dG.1 ht (h.1 e)) (λe=>PY y top ro Q ρ U dG.2 ht (h.2 e))
 | block i a Dg =>
   intro an top ro Q ρ U dG ht h;cases an<;>simp only[oU,bW]at dG
   rename_i x;simp only[qj]at h;refine cu.block ((Dg x top ro _ ρ U dG ht h).mono λe ρ U he=>?_);cases e with
   | exit k =>
     have n6:exW (Nat.beq k i) (Q.n ρ U) (Q.e k ρ U):=he;simp only[CQ];cases hb:Nat.beq k i with
     | true=>rw[hb]at n6;rw[if_pos (gN hb)];exact n6
     | false=>rw[hb]at n6;rw[if_neg (λe=>by subst e;simp at hb)];exact n6
   | normal=>exact he
   | ret=>exact he
   | panic x=>exact he
 | loop a Dg =>
   intro an top ro Q ρ U dG ht h;cases an<;>simp only[oU,bW]at dG
   rename_i live x;simp only[qj]at h;obtain⟨I,⟨m,h0⟩,hr⟩:=h;refine cu.loop (λm ρ U=>Fn.app live.length (I m) (live.map ρ.get) U) (n:=m) h0 λm ρ U hI=>?_;have:=Fn.P0 (hr m) _ _ d8 hI;rw[Fn.tp _ _ _ _ d8]at this;refine cu.QM ((Dg x top ro _ _ _ dG ht this).mono λe fI aa he=>?_) (Jg ρ live);cases e with
   | normal =>
     have n6:Fn.app live.length (Fn.lam live.length λvs U=>∃m',m'<m/\Fn.app live.length (I m') vs U) (live.map fI.get) aa:=he;rw[Fn.tp _ _ _ _ d8]at n6;exact n6
   | exit i=>exact he
   | ret=>exact he
   | panic x=>exact he
 | region id ops draw =>
   intro an top ro Q ρ U dG ht h;have kp:Cj Q.q=λx U=>∀ρ:Env,Q.p x U:=rfl;cases draw with
   | false =>
     cases an with
     | rg mu pf ey =>
       cases ey with
       | none =>
         simp only[oU]at dG;simp only[qj]at h;refine cu.region mu dG ?_;have h2:=AP _ ρ U h;exact ze (λ_ _ h=>h) (λv U hv ρ=>hv) _ h2
       | some ey=>simp[oU]at dG
     | _=>simp[oU]at dG
   | true =>
     cases an with
     | rg mu pf ey =>
       cases ey with
       | none=>simp[oU]at dG
       | some ey =>
         simp only[oU,cS]at dG;simp only[qj]at h;obtain⟨B,_,hA⟩:=ID _ _ _ _ h;refine cu.xo mu B ey.steps hm dG.1 (IB dG.2) ?_;exact l9 (λ_ _ h=>h) (λv U hv ρ=>hv) _ hA
     | rb mu ey =>
       simp only[oU,cS]at dG;simp only[qj]at h;obtain⟨B,hB⟩:=h;refine cu.xo mu B ey.steps hm dG.1 (IB dG.2) ?_;exact l9 (λ_ _ h=>h) (λv U hv ρ=>hv) _ (tI B _ _ _ hB)
     | rl mu ey =>
       simp only[oU,cS]at dG;simp only[qj]at h;obtain⟨B,_,hA⟩:=IC _ [] _ _ dG.2.2 h;refine cu.xo mu B ey.steps hm dG.1 (IB dG.2.1) ?_;exact l9 (λ_ _ h=>h) (λv U hv ρ=>hv) _ hA
     | r2 mu pre i j post =>
       simp only[oU,cS]at dG;simp only[qj]at h;obtain⟨B,hB⟩:=h;exact cu.Vv (mu:=mu) (B:=B) pre i j post hm dG.1 dG.2 (λv U hv ρ=>hv) hB
     | _=>simp[oU]at dG
 | rangeFunc f ps a b Dg PY =>
   intro an top ro Q ρ U dG ht h;cases an<;>simp only[oU,bW,cS]at dG
   rename_i x y;obtain⟨⟨⟨h1,h2⟩,h3⟩,h4⟩:=dG;have uI:=ht h1;subst uI;simp only[qj,AR]at h;split at h
   . rename_i lV first cap hf
     obtain⟨xU,h⟩:=h;refine cu.rangeFunc 0 hf xU λo ho=>?_;refine (h o ⟨ρ.get,nt,ps,a,b,.ready,none,0⟩ ho rfl rfl ?_).mono λr aa hr=>?_
     . intro args aK R L1 hl lz ji hB;obtain⟨r1,r2,r3,r4,r5,r6,r7,r8⟩:=L1;simp only[iu.st,iu.mk.injEq,true_and]at ji;obtain⟨e1,e2,e3,e4,e5,e6⟩:=ji;subst e1 e2 e3 e4 e5 e6;rw[wN.tp _ _ _ _ _ hl]at hB;refine o6.Na lz (by simpa using hl) (λt ht=>by
        have:=fQ.1 h2 t ht;exact Nat.le_of_ble_eq_true this) ?_
       refine (Dg x false (.round o) _ _ _ h3 (λh=>by cases h) hB).mono λe fI aa he=>?_;cases e with
       | normal =>
         obtain⟨L,k1,k2,k3⟩:=he;refine⟨L,k1,k2,(PY y false (.round o) _ _ _ h4 (λh=>by cases h) k3).mono λe uF aV he=>?_⟩;cases e with
         | normal=>exact he
         | exit i=>exact he
         | ret=>exact he
         | panic x=>exact he
       | exit i=>exact he
       | ret=>exact he
       | panic x=>exact he
     . cases r with
       | ret v =>
         obtain⟨L,k1,k2,k3⟩:=hr;refine⟨L,k1,k2,?_⟩;split at k3
         . rename_i hp;rw[hp];exact k3
         . rename_i hp;rw[hp];exact k3
         . rename_i hp;rw[hp];exact k3
         . exact k3.elim
       | panic v=>exact hr
   . exact h.elim
 | scope a Dg=>intro an top ro Q ρ U dG;cases an<;>simp[oU]at dG
 | label l=>intro an top ro Q ρ U dG;cases an<;>simp[oU]at dG
 | goto l=>intro an top ro Q ρ U dG;cases an<;>simp[oU]at dG
 | refuse w=>intro an top ro Q ρ U dG;cases an<;>simp[oU]at dG
def fV(vt:Option (Bool×Nat))(p:AV)(U:St)(k:AV->Prop):Prop:=match bj vt p U with
 | .val v=>k v
 | @aW.cond q _ (.val v)=>q/\k v
 | _=>False
def II(P:Program)(ρ:Env)(U:St):List ResultVar->(List AV->Prop)->Prop
 | [],k=>k []
 | .tmp t::rs,k=>II P ρ U rs λvs=>k (ρ.get t::vs)
 | .cell t ty::rs,k=>fV (qE P ty) (ρ.get t) U λv=>II P ρ U rs λvs=>k (v::vs)
def AT{P:Program}{ρ:Env}{U:St}:∀(l:List ResultVar)(k:List AV->Prop),II P ρ U l k->zQ P ρ U l k
 | [],_,h=>h
 | .tmp t::rs,k,h=>AT rs _ h
 | .cell t ty::rs,k,h=>by
   simp only[II,fV]at h;simp only[zQ,Et];rw[show y6 P ty (ρ.get t) U=bj (qE P ty) (ρ.get t) U from rfl];split at h
   . rename_i hl;rw[hl];exact AT rs _ h
   . rename_i hl;rw[hl];exact⟨h.1,AT rs _ h.2⟩
   . exact h.elim
def aq(R:bi)(x:AV)(U:St):Prop:=∃x' aa,qz x U x' aa/\R (.ret x') aa
def aD(R:bi)(x:AV)(U:St):Prop:=R (.panic x) U
def aku(P:Program)(fn:Func)(R:bi):Qx where
 n:=λρ U=>II P ρ U fn.results.toList λvs=>aq R (zU vs) U
 e:=λ_ _ _=>False
 r:=λρ U=>II P ρ U fn.results.toList λvs=>aq R (zU vs) U
 p:=aD R
def Q5(C:dQ)(fn:Func)(an:An)(args:List AV)(R:bi)(U:St):Prop:=match fn.body with
 | some c=>qj C c an (aku C.P fn R) (Env.mh args) U
 | none=>False
def okF(fn:Func)(an:An)(n:Nat):Bool:=match fn.body with
 | some c=>oU fn.ntmps true c an&&Nat.ble n fn.ntmps
 | none=>false
def ag.ae2{C:dQ}(hm:C.P.follows .mixedOrders){f:FuncId}{fn:Func}(an:An){args:List AV}{R:bi}{U:St}(hf:C.P.funcs[f]?=some fn)(dG:okF fn an args.length)
 (h:Q5 C fn an args R U):ag C f args U R:=by
 unfold okF at dG;unfold Q5 at h;split at dG
 . rename_i c hb;rw[hb]at h;simp only[cS]at dG;refine ag.Ql hf hb (Nat.le_of_ble_eq_true dG.2) ?_;refine (D9 hm c an true .fn _ _ _ dG.1 (λ_=>rfl) h).mono λe ρ U he=>?_;cases e with
   | normal=>exact AT _ _ he
   | ret=>exact AT _ _ he
   | panic x=>exact he
   | exit i=>exact he
 . cases dG
def aq.mk{R:bi}{x:AV}{U:St}(h:R (.ret x) U):aq R x U:=⟨x,U,qz.refl _ _,h⟩
end Go.Rip
namespace Go.Rip
open Go.RowKit
section
variable {C:dQ}{U:St}{K:am}{Kp:am}
@[simp] theorem ad(v:AV):(aW.val v).wp C U K Kp=K v U:=rfl
@[simp] theorem oH(v:AV)(b:Nat)(x:Live):(aW.kg v b x).wp C U K Kp=K v (U.set b x):=rfl
@[simp] theorem my(k:NV)(x:Live):(aW.new k none x).wp C U K Kp=∀b,U.eO b->K (k.at b) (U.new b x):=rfl
@[simp] theorem akO(k:NV)(d:Nat)(x:Live):(aW.new k (some d) x).wp C U K Kp=∀b,(U.del d).eO b->K (k.at b) ((U.del d).new b x):=rfl
@[simp] theorem nU(f:FuncId)(args:List AV):(aW.enter f args).wp C U K Kp=ag C f args U (bD K Kp):=rfl
@[simp] theorem Cf(f:Nat)(args:List AV):(aW.yield f args).wp C U K Kp=o6 C f args U (bD K Kp):=rfl
@[simp] theorem acZ(v:AV):(aW.panic v).wp C U K Kp=Kp v U:=rfl
@[simp] theorem wp_cond(p:Prop)[Decidable p](r:aW):(aW.cond p r).wp C U K Kp=(p/\r.wp C U K Kp):=rfl
@[simp] theorem akQ:aW.bad.wp C U K Kp=False:=rfl
@[simp] theorem akR(p:Prop)[Decidable p](r s:aW):(if p then r else s).wp C U K Kp=if p then r.wp C U K Kp else s.wp C U K Kp:=by split<;>rfl
@[simp] theorem bh(x:AV):bD K Kp (.ret x) U=K x U:=rfl
@[simp] theorem ahL(x:AV):bD K Kp (.panic x) U=Kp x U:=rfl
end
@[simp] theorem ahM(b:Bool)(A B:Prop):cX (.bool b) A B=((b->A)/\(b=false->B)):=rfl
def aL(A B:Prop):cX (.bool true) A B=A:=by simp[cX]
def aG(A B:Prop):cX (.bool false) A B=B:=by simp[cX]
def bp(p:Prop)[Decidable p](A B:Prop):cX (.bool (decide p)) A B=((p->A)/\(¬ p->B)):=by simp[cX]
@[simp] theorem aF(b w:Bool):cq (.bool b) w=.bool (b==w):=rfl
@[simp] theorem akJ(w:Bool):cq (.az []) w=.bool false:=rfl
@[simp] theorem iI(v:AV):IN true v=v:=rfl
@[simp] theorem DU(v:AV):IN false v=.az []:=rfl
@[simp] theorem aw(C:dQ)(b:Bool)(r:aW)(k:AV->Prop):aI C (.bool b) r k=gD C b r k:=rfl
@[simp] theorem ma(C:dQ)(b:Bool)(v:AV)(k:AV->Prop):gD C b (.val v) k=k (IN b v):=rfl
@[simp] theorem ahO(C:dQ)(b:Bool)(p:Prop)[Decidable p](r:aW)(k:AV->Prop):gD C b (.cond p r) k=((b->p)/\gD C b r k):=rfl
@[simp] theorem ahb(C:dQ)(b:Bool)(f:FuncId)(args:List AV)(k:AV->Prop):gD C b (.enter f args) k=∃v,(b->Pure C f args v)/\k (IN b v):=rfl
@[simp] theorem bB(C:dQ)(k:AV->Prop):∀r:aW,(gD C false r k)=k (.az [])
 | .val v=>rfl
 | @aW.cond _ _ r=>by simp only[gD];rw[bB C k r];simp
 | .enter _ _=>by simp[gD]
 | .kg _ _ _=>by simp[gD]
 | .new _ _ _=>by simp[gD]
 | .ov _ _=>by simp[gD]
 | .yield _ _=>by simp[gD]
 | .panic _=>by simp[gD]
 | .bad=>by simp[gD]
@[simp] theorem ao(C:dQ)(v:AV)(k:AV->Prop):bC C (.val v) k=k v:=rfl
@[simp] theorem jB(C:dQ)(p:Prop)[Decidable p](r:aW)(k:AV->Prop):bC C (.cond p r) k=(p/\bC C r k):=rfl
@[simp] theorem Nl(C:dQ)(f:FuncId)(args:List AV)(k:AV->Prop):bC C (.enter f args) k=∃v,Pure C f args v/\k v:=rfl
def zg(C:dQ)(k:AV->Prop):∀r:aW,gD C true r k=bC C r k
 | .val v=>rfl
 | @aW.cond _ _ r=>by simp only[gD,bC,zg C k r];simp
 | .enter _ _=>by simp[gD,bC]
 | .kg _ _ _=>by simp[gD,bC]
 | .new _ _ _=>by simp[gD,bC]
 | .ov _ _=>by simp[gD,bC]
 | .yield _ _=>by simp[gD,bC]
 | .panic _=>by simp[gD,bC]
 | .bad=>by simp[gD,bC]
@[simp] theorem bO(C:dQ)(k:AV->Prop)(r:aW):gD C true r k=bC C r k:=zg C k r
def rO(C:dQ)(k:AV->Prop)(r:aW)(p:Prop)[Decidable p]:gD C (decide p) r k=((p->bC C r k)/\(¬ p->k (.az []))):=by
 by_cases h:p<;>simp[h]
def qu(C:dQ)(k:AV->Prop)(r:aW)(p:Prop)[Decidable p]:gD C (!decide p) r k=((p->k (.az []))/\(¬ p->bC C r k)):=by
 by_cases h:p<;>simp[h]
@[simp] theorem av(b:Bool)(x y:AV):fP (.bool b) x y=.val (if b=true then x else y):=rfl
@[simp] theorem ite_bool(b x y:Bool):(if b=true then AV.bool x else AV.bool y)=.bool (if b=true then x else y):=by split<;>rfl
section
variable (bt:BT)(l:Bool)(k:IntKind)(a b:Int)(s t:List UInt8)
@[simp] theorem aN:bU .eql bt l (.int k a) (.int k b)=.val (.bool (decide (a=b))):=by simp only[bU,if_true];rfl
@[simp] theorem ck:bU .neq bt l (.int k a) (.int k b)=.val (.bool (!decide (a=b))):=by simp only[bU,if_true];rfl
@[simp] theorem aY:bU .lss bt l (.int k a) (.int k b)=.val (.bool (decide (a<b))):=by simp only[bU,if_true]
@[simp] theorem iC:bU .leq bt l (.int k a) (.int k b)=.val (.bool (decide (a<=b))):=by simp only[bU,if_true]
@[simp] theorem dq:bU .gtr bt l (.int k a) (.int k b)=.val (.bool (decide (b<a))):=by simp only[bU,if_true,gt_iff_lt]
@[simp] theorem eX:bU .geq bt l (.int k a) (.int k b)=.val (.bool (decide (b<=a))):=by simp only[bU,if_true,ge_iff_le]
@[simp] theorem oI:bU .add bt l (.int k a) (.int k b)=kX k (a+b):=by simp only[bU,if_true]
@[simp] theorem jA:bU .sub bt l (.int k a) (.int k b)=kX k (a-b):=by simp only[bU,if_true]
@[simp] theorem Oi:bU .mul bt l (.int k a) (.int k b)=kX k (a*b):=by simp only[bU,if_true]
@[simp] theorem Oj:bU .quo bt l (.int k a) (.int k b)=.cond (b≠0) (kX k (a.tdiv b)):=by simp only[bU,if_true]
@[simp] theorem Ok:bU .rem bt l (.int k a) (.int k b)=.cond (b≠0) (.val (.int k (a.tmod b))):=by simp only[bU,if_true]
@[simp] theorem hU:bU .eql bt l (.str s) (.str t)=.val (.bool (decide (s=t))):=by
 show aW.val (.bool (s==t))=_;rw[show (s==t)=decide (s=t) from oN.2 d8]
@[simp] theorem nr:bU .neq bt l (.str s) (.str t)=.val (.bool (!decide (s=t))):=by
 show aW.val (.bool (s != t))=_;rw[show (s != t)=!decide (s=t) from oN.2 d8]
@[simp] theorem ahI:bU .add bt l (.str s) (.str t)=.cond (s.length+t.length<=4294967296) (.val (.str (s++t))):=rfl
@[simp] theorem af3(x y:Bool)(i p:Bool)(f:Option (List FK))(sl:Bool):bU .eql ⟨true,i,p,f,sl⟩ l (.bool x) (.bool y)=.val (.bool (x==y)):=by simp only[bU,if_true]
@[simp] theorem CN(x y:Bool)(i p:Bool)(f:Option (List FK))(sl:Bool):bU .neq ⟨true,i,p,f,sl⟩ l (.bool x) (.bool y)=.val (.bool (x != y)):=by simp only[bU,if_true]
@[simp] theorem ahJ(x y:List AV)(i p q:Bool)(f:List FK)(sl:Bool):bU .eql ⟨q,i,p,some f,sl⟩ l (.agg x) (.agg y)=zX .bool (rY f x y):=rfl
@[simp] theorem ahK(x y:List AV)(i p q:Bool)(f:List FK)(sl:Bool):bU .neq ⟨q,i,p,some f,sl⟩ l (.agg x) (.agg y)=zX (λr=>.bool (!r)) (rY f x y):=rfl
@[simp] theorem ai8(f:Bool->AV)(r:Bool):zX f (some r)=.val (f r):=rfl
@[simp] theorem db(x:Bool):yx .not (.bool x)=.val (.bool (!x)):=rfl
@[simp] theorem il:kX .i64 a=.cond (xG a) (.val (.int .i64 a)):=rfl
@[simp] theorem FE:kX .u8 a=.val (.int .u8 (IntKind.u8.wrap a)):=rfl
end
def aX{n:Int}(h1:-9223372036854775808<=n)(h2:n<=9223372036854775807):xG n:=⟨h1,h2⟩
section
variable (sz b o:Nat)(p v:AV)(U:St)(L l:List AV)
def yh{U:St}{b:Nat}{L:List AV}(h:U.box b=some L)(n o:Nat):bj (some (false,n)) (.box b o) U=kn (L.drop o):=by simp[bj,o8,h]
def UP{U:St}{b:Nat}{L:List AV}(h:U.box b=some L)(n o:Nat):bj (some (true,n)) (.box b o) U=.cond (n<=(L.drop o).length) (.val (.agg ((L.drop o).take n))):=by simp[bj,o8,h]
@[simp] theorem y7:bj (some (false,sz)) (.dJ L) U=kn L:=rfl
@[simp] theorem R2:bj (some (true,sz)) (.dJ L) U=.cond (sz<=L.length) (.val (.agg (L.take sz))):=rfl
@[simp] theorem eP(x:AV):kn (x::L)=.val x:=rfl
def pD{U:St}{b:Nat}{L:List AV}(h:U.box b=some L)(t:Bool)(n o:Nat)(v:AV):dD (some (t,n)) (.box b o) v U=.cond (v.dC/\(al v).length=n/\o+n<=L.length) (.kg (.az []) b (.box (ax L o (al v)))):=by simp[dD,h]
@[simp] theorem bL:jf (.box b o)=.val (.box b o):=rfl
@[simp] theorem Cz:jf (.dJ L)=.val (.dJ L):=rfl
@[simp] theorem afP(f:Nat)(x y:List AV):jf (.func (.func f) x y)=.val (.func (.func f) x y):=rfl
@[simp] theorem aP(k:Nat):bu (some k) (.box b o)=.val (.box b (o+k)):=rfl
@[simp] theorem dX(k:Nat):bu (some k) (.dJ L)=.val (.dJ (L.drop k)):=rfl
@[simp] theorem GF(k n:Nat):wa (some (k,false,n)) (.agg L)=kn (L.drop k):=rfl
@[simp] theorem ah2(k n:Nat):wa (some (k,true,n)) (.agg L)=.cond (k+n<=L.length) (.val (.agg ((L.drop k).take n))):=rfl
@[simp] theorem Cx(e n:Nat)(c:nj)(k:IntKind)(j:Int)(at_:Option (Nat×TypeId×Nat)):bJ (some (e,sz)) at_ (.vec n c L) (.int k j)=.cond (0<=j/\j<n) (.val (.dJ (L.drop (j.toNat*sz)))):=rfl
@[simp] theorem agQ(e n z t:Nat)(k:IntKind)(j:Int)(at_:Option (Nat×TypeId×Nat)):bJ (some (e,sz)) at_ (.ms b o n z t) (.int k j)=.cond (0<=j/\j<n/\z=sz) (.val (.box b (o+j.toNat*sz))):=rfl
@[simp] theorem JJ(s:List UInt8)(k:IntKind)(j:Int)(at_:Option (Nat×TypeId×Nat))(vt:Option (Bool×Nat)):fL true at_ vt (.str s) (.int k j)=.cond (0<=j/\j<s.length) (.val (.int .u8 (s.getD j.toNat 0).toNat)):=by simp[fL]
@[simp] theorem ia(s:List UInt8):dK (some true) (.str s)=.val (.int .i64 s.length):=rfl
@[simp] theorem u1(n:Nat)(c:nj):dK (some false) (.vec n c L)=.val (.int .i64 n):=rfl
@[simp] theorem Dp(n z e:Nat):dK (some false) (.ms b o n z e)=.val (.int .i64 n):=rfl
@[simp] theorem len_nil:dK (some false) .af=.val (.int .i64 0):=rfl
@[simp] theorem bN(k:Nat):jt (.az L) k=kn (L.drop k):=rfl
@[simp] theorem Tl:al (.agg L)=L:=rfl
@[simp] theorem Jc(k:IntKind)(n:Int):al (.int k n)=[.int k n]:=rfl
@[simp] theorem Jd(s:List UInt8):al (.str s)=[.str s]:=rfl
@[simp] theorem ahV(x:Bool):al (.bool x)=[.bool x]:=rfl
@[simp] theorem ai3:al (.box b o)=[.box b o]:=rfl
@[simp] theorem ai4(n:Nat)(c:nj):al (.vec n c L)=[.vec n c L]:=rfl
@[simp] theorem ajj(n z e:Nat):al (.ms b o n z e)=[.ms b o n z e]:=rfl
@[simp] theorem aev:al .af=[.af]:=rfl
@[simp] theorem af7:al .bE=[.bE]:=rfl
@[simp] theorem ahX(f:Go.Fn)(x y:List AV):al (.func f x y)=[.func f x y]:=rfl
@[simp] theorem ahW(x y:List AV):al (.iK x y)=[.iK x y]:=rfl
@[simp] theorem aji(m:Nat):al (.mp m)=[.mp m]:=rfl
@[simp] theorem abk:(AV.agg L).dC:=rfl
@[simp] theorem abl(k:IntKind)(n:Int):(AV.int k n).dC:=rfl
@[simp] theorem abm(s:List UInt8):(AV.str s).dC:=rfl
@[simp] theorem ai5(x:Bool):(AV.bool x).dC:=rfl
@[simp] theorem akc:(AV.box b o).dC:=rfl
@[simp] theorem akd(n:Nat)(c:nj):(AV.vec n c L).dC:=rfl
@[simp] theorem akL(n z e:Nat):(AV.ms b o n z e).dC:=rfl
@[simp] theorem afO:AV.af.dC:=rfl
@[simp] theorem ahN:AV.bE.dC:=rfl
@[simp] theorem ai7(f:Go.Fn)(x y:List AV):(AV.func f x y).dC:=rfl
@[simp] theorem ai6(x y:List AV):(AV.iK x y).dC:=rfl
@[simp] theorem akK(m:Nat):(AV.mp m).dC:=rfl
@[simp] theorem Ja(h:v.dC):CR v=.cond True (.mU (al v)):=by simp[CR,h]
@[simp] theorem nz(s:List UInt8)(sl:Option (TypeId×Nat))(lo hi:Option AV):eI true sl (.str s) lo hi=(match fB 0 lo,fB s.length hi with
 | some l,some h=>.cond (0<=l/\l<=h/\h<=s.length) (.val (.str ((s.take h.toNat).drop l.toNat)))
 | _,_=>.bad):=by
 simp only[eI];cases fB 0 lo<;>cases fB (s.length:Int) hi<;>rfl
@[simp] theorem kj(d:Int):fB d none=some d:=rfl
@[simp] theorem gp(d:Int)(k:IntKind)(n:Int):fB d (some (.int k n))=some n:=rfl
@[simp] theorem zl(e n:Nat)(c:nj)(lo hi:Option AV)(st:Bool):eI st (some (e,sz)) (.vec n c L) lo hi=(match fB 0 lo,fB n hi with
 | some a,some b=>.cond (0<=a/\a<=b/\b<=n) (.val (.vec (b.toNat-a.toNat) (xg c hi) ((L.take (b.toNat*sz)).drop (a.toNat*sz))))
 | _,_=>.bad):=by
 simp only[eI];cases fB 0 lo<;>cases fB (n:Int) hi<;>rfl
@[simp] theorem akM(k:IntKind)(a b:Int):FR (.int k a) (.int k b)=.val (.int k (if b > a then b else a)):=by simp[FR]
@[simp] theorem Qf(k:IntKind)(a b:Int):zM (.int k a) (.int k b)=.val (.int k (if b<a then b else a)):=by simp[zM]
end
def aq.eq{R:bi}{x y:AV}{U:St}(h:R (.ret y) U)(e:x=y):aq R x U:=by subst e;exact aq.mk h
def Pure.go{C:dQ}{f:FuncId}{args:List AV}{x:AV}{K:am}{Kp:am}{U:St}(h:Pure C f args x)(hk:K x U):ag C f args U (bD K Kp):=h U _ hk
end Go.Rip
