/- Lemmas for the proof: no conditions. -/
import Derived.Test.YtnfpmiiopiinbaaGreatDoorRipZz
import Derived.Test.YtnfpmiiopiinbaaGreatDoorRipB
set_option linter.unusedVariables false
set_option linter.unusedSimpArgs false
set_option linter.loopingSimpArgs false
namespace Go.Rip
open Go.RowKit
mutual
def flat:AV->Bool
 | .bool _ | .int _ _ | .str _ | .aY | .ah | .jE | .dV | .dr=>true
 | .iface _ v=>flat v
 | .agg l=>CK l
 | .aH l=>CK l
 | _=>false
def CK:List AV->Bool
 | []=>true
 | x::xs=>flat x && CK xs
end
mutual
theorem az.flat {g g':Gh}:∀ (x:AV) (v:Value),flat x=true->az g x v->az g' x v
 | .bool _,_,_,hr=>hr
 | .int _ _,_,_,hr=>hr
 | .str _,_,_,hr=>hr
 | .aY,_,_,hr=>hr
 | .ah,_,_,hr=>hr
 | .jE,_,_,hr=>hr
 | .dV,_,_,hr=>hr
 | .dr,_,_,hr=>hr
 | .iface t x,v,h,hr=>by
   simp only [Rip.flat] at h
   simp only [az] at hr ⊢
   obtain ⟨u,h1,h2⟩:=hr
   exact ⟨u,h1,az.flat x u h h2⟩
 | .agg l,v,h,hr=>by
   simp only [Rip.flat] at h
   simp only [az] at hr ⊢
   obtain ⟨vs,h1,h2,h3⟩:=hr
   exact ⟨vs,h1,h2,aA.flat l _ h h3⟩
 | .aH l,v,h,hr=>by
   simp only [Rip.flat] at h
   simp only [az] at hr ⊢
   obtain ⟨vs,h1,h3⟩:=hr
   exact ⟨vs,h1,aA.flat l _ h h3⟩
theorem aA.flat {g g':Gh}:∀ (l:List AV) (vs:List Value),CK l=true->aA g l vs->aA g' l vs
 | [],vs,_,h=>by cases vs <;> simp_all [aA]
 | x::xs,vs,h,hr=>by
   simp only [CK,bX] at h
   simp only [aA] at hr ⊢
   obtain ⟨v,vs',h1,h2,h3⟩:=hr
   exact ⟨v,vs',h1,az.flat x v h.1 h2,aA.flat xs vs' h.2 h3⟩
end
theorem ae.YG {C:cQ} {f:Nat} {args args0:List AV} {U:St} {R:cR->St->Prop} {x:AV} (d:Nat) (CT:∀ i,closed (C.zl i)=true)
 (hw:∀ g vs,aA g (args.map (resolve d U)) vs->aA g args0 vs) (hargs:cA args0=true) (hx:flat x=true) (h:Pure C f args0 x) (hR:R (.ret x) U):ae C f args U R:=by
 intro g w vs hs hG ha
 have KW:=hs.C7
 let g0:Gh:={ base:=w.heap.size,w0:=w,place:=fun _=>none,cB:=(g.all w).cB,ca:=(g.all w).ca,res:=fun _=>false }
 have wH:bo g0 (bM ⟨.e,0⟩) w:={
  below:=Below.refl _ _
  le:=cX _
  cB:=fun q o u hu=>xk hs q o u hu
  ca:=fun q es c hu=>vC hs q es c hu
  live:=fun b x hb=>by cases hb
  apart:=fun b b' x x' p p' hb=>by cases hb
  res:=fun r hr=>by cases hr
  fin:=⟨0,fun n hn=>by cases hn; rfl,fun _ _=>rfl⟩ }
 have OL:iL C g0:=⟨fun i=>az.closed (g:=g) (g':=g0) (fun _ _ _ h=>KW.cB _ _ _ h) (fun _ _ h=>KW.ca _ _ h) _ _ (CT i) (hG.1 i),fun i cs hi=>by
  obtain ⟨k1,t,fr,k2⟩:=hG.2 i cs hi
  refine ⟨Nat.lt_of_lt_of_le k1 hs.le,t,fr,?_⟩
  show w.heap[i]?=_
  rw [hs.below.block i k1]; exact k2⟩
 have ha0:aA g0 args0 vs:=aA.closed (g:=g.all w) (g':=g0) (fun _ _ _ h=>h) (fun _ _ h=>h) _ _ hargs (hw _ _ (Cc (fun x v _ hr=>BG hs d x v hr) ha))
 refine (h (bM ⟨.e,0⟩) (fun r _=>r=.ret x) rfl g0 w vs wH OL ha0).mono ?_
 rintro e w' hp
 cases e with
 | panicked ch=>obtain ⟨g',ad,y,v,_,_,_,_,hz⟩:=hp; cases hz
 | outgrown=>exact hp.elim
 | returned v =>
   obtain ⟨g',ad,y,h1,h2,h3,hz⟩:=hp
   cases hz
   have uk:=h2.C7
   have hle:=h1.trans uk
   have xv:Below w.heap.size w w':=by
    have:=h2.below
    rw [h1.base,h1.w0] at this
    exact this
   let gF:Gh:={ base:=g.base,w0:=g.w0,place:=g.place,cB:=g.cB,ca:=g.ca,res:=g.res }
   have HQ:Gh.Le g gF:=⟨rfl,rfl,fun _ _ h=>h,fun b o u hu=>hu,fun b u hu=>hu,fun _ h=>h,fun _ _ _=>rfl,fun _ _=>rfl⟩
   refine ⟨gF,U,x,HQ,?_,az.flat x v hx h3,hR⟩
   exact {
    below:=hs.below.trans (xv.mono hs.le)
    le:=Nat.le_trans hs.le xv.size
    cB:=fun q o u hu=>xk h2 q o u (hle.cB _ _ _ (KW.cB _ _ _ hu))
    ca:=fun q es c hu=>vC h2 q es c (hle.ca _ _ (KW.ca _ _ hu))
    live:=fun b l hb=>by
     obtain ⟨p,k1,k2,k3⟩:=hs.live b l hb
     have aQ:=k3.lt
     exact ⟨p,k1,k2,k3.frame HQ.r (xv.block _ aQ) (fun o=>rfl) rfl⟩
    apart:=hs.apart
    res:=fun r hr=>by
     obtain ⟨k1,k2⟩:=hs.res r hr
     exact ⟨k1,by rw [xv.block _ (lz.1 k2).1]; exact k2⟩
    fin:=hs.fin }
inductive Wk:List AV->List AV->Prop
 | nil:Wk [] []
 | aX (x:AV) {l l':List AV}:Wk l l'->Wk (x::l) (x::l')
 | drop (x:AV) {l l':List AV}:Wk l l'->Wk (.any::l) (x::l')
theorem Wk.rep {g:Gh} {l l':List AV} (h:Wk l l'):∀ {vs:List Value},aA g l' vs->aA g l vs:=by
 induction h with
 | nil=>exact fun h=>h
 | aX x _ ih =>
   intro vs h
   simp only [aA] at h ⊢
   obtain ⟨u,us,h1,h2,h3⟩:=h
   exact ⟨u,us,h1,h2,ih h3⟩
 | drop x _ ih =>
   intro vs h
   simp only [aA] at h ⊢
   obtain ⟨u,us,h1,h2,h3⟩:=h
   exact ⟨u,us,h1,by simp only [az],ih h3⟩
theorem Wk.cN {g:Gh} {l l' r:List AV} {vs:List Value} (h:Wk l l') (hr:aA g (.cN l'::r) vs):aA g (.cN l::r) vs:=by
 simp only [aA,az] at hr ⊢
 obtain ⟨u,us,h1,⟨aI,off,ws,h2,h3,h4⟩,h5⟩:=hr
 exact ⟨u,us,h1,⟨aI,off,ws,h2,h3,h.rep h4⟩,h5⟩
theorem Wk.any:∀ (l:List AV),Wk (l.map fun _=>.any) l
 | []=>.nil
 | x::l=>.drop x (Wk.any l)
end Go.Rip
namespace Go.Rip
open Go.RowKit
def aj (vt:Option (Bool × Nat)) (p:AV) (U:St):aD :=
 match vt,mW U p with
 | some (true,sz),some l=>.cond (sz <= l.length) (.val (.agg (l.take sz)))
 | some (false,_),some l=>iX l
 | _,_=>.bad
def aF (vt:Option (Bool × Nat)) (p v:AV) (U:St):aD :=
 match vt,p with
 | some (_,sz),.box b off=>match U.box b with
   | some l=>.cond (v.dc=true/\(au v).length=sz/\off+sz <= l.length) (.iH (.aH []) b (.box (ay l off (au v))))
   | none=>.bad
 | _,_=>.bad
def Y8 (t:TypeId) (z:Option (List AV)):aD :=
 match z with
 | some l=>G6 t l
 | none=>.bad
def dO (st:Option (List (Nat × Nat))) (z:Option (List AV)) (at_:Option (Nat × TypeId × Nat)) (parts:List (Nat × AV)):aD :=
 match st,z with
 | some pl,some z=>gu (fun i=>pl[i]?) parts z fun z=>.val (.agg z)
 | none,some z=>match at_ with
   | some (_,_,sz)=>gu (fun i=>some (i * sz,sz)) parts z fun z=>.val (.agg z)
   | none=>.bad
 | _,_=>.bad
def ar (sl:Option (TypeId × Nat)) (z:Option (List AV)) (n:Nat) (mu:Bool) (parts:List (Nat × AV)):aD :=
 match sl with
 | some (e,sz)=>match z with
   | some z=>.cond (n * sz <= 16777216) (gu (fun i=>some (i * sz,sz)) parts (bN n z) fun cs=>.cond (cs.length=n * sz) (if mu then .pD n sz e none cs else .val (.vec n .full cs)))
   | none=>.bad
 | none=>.bad
def dX (mt:Option (FK × TypeId)) (m k v:AV) (U:St):aD :=
 match mt,m with
 | some (fk,_),.mp id=>match U.mp id with
   | some (ks,vs)=>match lY fk k ks 0,qk fk k with
     | some none,true=>.iH (.aH []) id (.mp (gS k v ks vs).1 (gS k v ks vs).2)
     | some (some i),true=>.iH (.aH []) id (.mp ks (vs.set i v))
     | _,_=>.bad
   | none=>.bad
 | _,_=>.bad
def et (mt:Option (FK × TypeId)) (z:Option AV) (m k:AV) (ok:Bool) (U:St):aD :=
 match mt,kB U m with
 | some (fk,e),some (ks,vs)=>match z,qk fk k with
   | some z,true=>nT fk k z ok ks vs
   | _,_=>.bad
 | _,_=>.bad
def GA (it:Option IntKind) (is:Bool) (ss bs:Bool) (x:AV):aD :=
 match it,is,x with
 | some .i64,true,.int _ n=>.cond (wa n) (.val (.int .i64 n))
 | some k,true,.int _ n=>.val (.int k (k.wrap n))
 | none,true,.str s=>if ss=true then .val (.str s) else
   if bs=true then .cond (s.length <= 4294967296) (.val (.vec s.length .iE (s.map fun b=>.int .u8 b.toNat))) else .bad
 | _,_,_=>.bad
def fG (st:Bool) (sl:Option (TypeId × Nat)) (x:AV) (lo hi:Option AV):aD :=
 match x with
 | .str s=>match st,eh 0 lo,eh s.length hi with
   | true,some l,some h=>.cond (0 <= l/\l <= h/\h <= s.length) (.val (.str ((s.take h.toNat).drop l.toNat)))
   | _,_,_=>.bad
 | .vec n cap l=>match sl,eh 0 lo,eh n hi with
   | some (_,sz),some a,some b=>.cond (0 <= a/\a <= b/\b <= n) (.val (.vec (b.toNat - a.toNat) (xn cap hi) ((l.take (b.toNat * sz)).drop (a.toNat * sz))))
   | _,_,_=>.bad
 | .ah=>match sl,eh 0 lo,eh 0 hi with
   | some (_,_),some a,some b=>.cond (a=0/\b=0) (.val .ah)
   | _,_,_=>.bad
 | .ms b off n jr e=>match sl,eh 0 lo,eh n hi with
   | some (_,sz),some a,some h=>.cond (0 <= a/\a <= h/\h <= n/\(a < n\/a=0)/\jr=sz) (.val (.ms b (off+a.toNat * sz) (h.toNat - a.toNat) jr e))
   | _,_,_=>.bad
 | _=>.bad
def af (ft:Option Nat) (p:AV):aD :=
 match ft,p with
 | some o,.box b off=>.val (.box b (off+o))
 | some o,.cN l=>.val (.cN (l.drop o))
 | _,_=>.bad
def uV (fv:Option (Nat × Bool × Nat)) (x:AV):aD :=
 match fv,x with
 | some (o,true,n),.agg l=>.cond (o+n <= l.length) (.val (.agg ((l.drop o).take n)))
 | some (o,false,_),.agg l=>iX (l.drop o)
 | _,_=>.bad
def aaq (at_:Option (Nat × TypeId × Nat)) (x i:AV):aD :=
 match at_,x,i with
 | some (n,_,sz),.cN l,.int _ j=>.cond (0 <= j/\j < n) (.val (.cN (l.drop (j.toNat * sz))))
 | some (n,_,sz),.box b off,.int _ j=>.cond (0 <= j/\j < n) (.val (.box b (off+j.toNat * sz)))
 | _,_,_=>.bad
def aL (sl:Option (TypeId × Nat)) (at_:Option (Nat × TypeId × Nat)) (x i:AV):aD :=
 match sl,x,i with
 | none,x,i=>aaq at_ x i
 | some (_,sz),.vec n _ l,.int _ j=>.cond (0 <= j/\j < n) (.val (.cN (l.drop (j.toNat * sz))))
 | some (_,sz),.ms b off n jr _,.int _ j=>.cond (0 <= j/\j < n/\jr=sz) (.val (.box b (off+j.toNat * sz)))
 | _,_,_=>.bad
def iv (st:Bool) (at_:Option (Nat × TypeId × Nat)) (vt:Option (Bool × Nat)) (x i:AV):aD :=
 match x,i with
 | .str s,.int _ j=>if st=true then .cond (0 <= j/\j < s.length) (.val (.int .u8 (s.getD j.toNat 0).toNat)) else .bad
 | .agg l,.int _ j=>match at_ with
   | some (n,e,sz)=>match vt with
     | some (false,_)=>.cond (0 <= j/\j < n) (iX (l.drop (j.toNat * sz)))
     | some (true,k)=>.cond (0 <= j/\j < n/\k=sz/\j.toNat * sz+sz <= l.length) (.val (.agg ((l.drop (j.toNat * sz)).take sz)))
     | none=>.bad
   | none=>.bad
 | _,_=>.bad
def xT (b:Bool) (t:TypeId) (x:AV):aD:=if b=true then .val (.iface t x) else .bad
def uF (mt:Option (FK × TypeId)) (m:AV):aD :=
 match mt,m with
 | some _,.fY ks vs=>.new .it none (.iter (ks.zip vs) none)
 | _,_=>.bad
def vX (z:Option AV) (x:AV) (t:TypeId) (ok:Bool):aD :=
 match z,x with
 | some z,.iface u v=>if u=t then .val (if ok then .aH [v,.bool true] else v) else if ok then .val (.aH [z,.bool false]) else .bad
 | some z,.dr=>if ok then .val (.aH [z,.bool false]) else .bad
 | _,_=>.bad
def Dc (sl:Option (TypeId × Nat)) (z:Option (List AV)) (mu:Bool) (l c:AV):aD :=
 match sl,l,c with
 | some (e,sz),.int _ l,.int _ c=>match z with
   | some z=>.cond (0 <= l/\l=c/\c <= 65536) (if mu then .pD l.toNat sz e none (bN l.toNat z) else .ou l.toNat (bN l.toNat z) none ⟨l.toNat,e,sz⟩)
   | none=>.bad
 | _,_,_=>.bad
def CD (sl:Option (TypeId × Nat)) (z:Option (List AV)) (x:AV) (U:St):aD :=
 match sl,x with
 | some (e,sz),.ms b off n jr _=>match U.box b,z with
   | some l,some z=>.cond (jr=sz/\off+n * sz <= l.length) (.iH (.aH []) b (.box (ay l off (bN n z))))
   | _,_=>.bad
 | _,_=>.bad
def cw (lt:Option Bool) (x:AV):aD :=
 match lt,x with
 | some true,.str s=>.val (.int .i64 s.length)
 | some false,.vec n _ _=>.val (.int .i64 n)
 | some false,.ms _ _ n _ _=>.val (.int .i64 n)
 | some false,.ah=>.val (.int .i64 0)
 | _,_=>.bad
def eH (ap:Option (TypeId × Nat)) (mu:Bool) (s y:AV) (U:St):aD :=
 match ap,rJ U y with
 | some (e,sz),some (m,l2) =>
   .cond (l2.length=m * sz) (match s with
   | .ah=>if m=0 then .val .ah else .cond (m <= 4294967296) (if mu then .pD m sz e none l2 else .ou m l2 none ⟨m,e,sz⟩)
   | .vec n .full l=>if m=0 then .val s else .cond (l.length=n * sz/\n+m <= 4294967296) (.ou (n+m) (l++l2) none ⟨n+m,e,sz⟩)
   | .vec n (.own τ) l=>.cond (U.tok τ=some ⟨n,e,sz⟩/\l.length=n * sz/\n+m <= 4294967296) (.ou (n+m) (l++l2) (some τ) ⟨n+m,e,sz⟩)
   | .ms b off n jr e'=>match U.box b with
     | some l=>.cond (off=0/\jr=sz/\e'=e/\n * sz <= l.length/\n+m <= 4294967296) (.pD (n+m) sz e (some b) (l.take (n * sz)++l2))
     | none=>.bad
   | _=>.bad)
 | _,_=>.bad
structure BT where
 b:Bool
 i:Bool
 p:Bool
 f:Option (List FK)
 s:Bool
def aay (P:Program) (t:TypeId):BT:=⟨wO P t,lu P t,nh P t,Mm P t,qy P t⟩
def VN (f:Option (List FK)) (a b:List AV):Option Bool :=
 match f with
 | some ks=>pL ks a b
 | none=>none
def ax (op:BinOp) (bt:BT) (lit:Bool) (x y:AV):aD :=
 match op,x,y with
 | .eql,.dr,.dr=>if bt.i=true/\lit=true then .val (.bool true) else .bad
 | .neq,.dr,.dr=>if bt.i=true/\lit=true then .val (.bool false) else .bad
 | .add,.int k a,.int k' b=>if k=k' then jf k (a+b) else .bad
 | .sub,.int k a,.int k' b=>if k=k' then jf k (a - b) else .bad
 | .mul,.int k a,.int k' b=>if k=k' then jf k (a * b) else .bad
 | .quo,.int k a,.int k' b=>if k=k' then .cond (b ≠ 0) (jf k (a.tdiv b)) else .bad
 | .rem,.int k a,.int k' b=>if k=k' then .cond (b ≠ 0) (.val (.int k (a.tmod b))) else .bad
 | .and,.int k a,.int k' b=>if k=k' then .val (.int k (k.wrap (BitVec.ofInt k.bits a &&& BitVec.ofInt k.bits b).toNat)) else .bad
 | .or,.int k a,.int k' b=>if k=k' then .val (.int k (k.wrap (BitVec.ofInt k.bits a ||| BitVec.ofInt k.bits b).toNat)) else .bad
 | .eql,.int k a,.int k' b=>if k=k' then .val (.bool (a == b)) else .bad
 | .neq,.int k a,.int k' b=>if k=k' then .val (.bool (a != b)) else .bad
 | .lss,.int k a,.int k' b=>if k=k' then .val (.bool (decide (a < b))) else .bad
 | .leq,.int k a,.int k' b=>if k=k' then .val (.bool (decide (a <= b))) else .bad
 | .gtr,.int k a,.int k' b=>if k=k' then .val (.bool (decide (a > b))) else .bad
 | .geq,.int k a,.int k' b=>if k=k' then .val (.bool (decide (a >= b))) else .bad
 | .eql,.str a,.str b=>.val (.bool (a == b))
 | .neq,.str a,.str b=>.val (.bool (a != b))
 | .add,.str a,.str b=>.cond (a.length+b.length <= 4294967296) (.val (.str (a++b)))
 | .eql,.bool a,.bool b=>if bt.b=true then .val (.bool (a == b)) else .bad
 | .neq,.bool a,.bool b=>if bt.b=true then .val (.bool (a != b)) else .bad
 | .eql,.agg a,.agg b=>vY .bool (VN bt.f a b)
 | .neq,.agg a,.agg b=>vY (fun r=>.bool (!r)) (VN bt.f a b)
 | .eql,.iface _ _,.dr=>if bt.i=true then .val (.bool false) else .bad
 | .neq,.iface _ _,.dr=>if bt.i=true then .val (.bool true) else .bad
 | .eql,.aY,.aY=>if bt.p=true then .val (.bool true) else .bad
 | .eql,.box _ _,.aY=>if bt.p=true then .val (.bool false) else .bad
 | .neq,.aY,.aY=>if bt.p=true then .val (.bool false) else .bad
 | .neq,.box _ _,.aY=>if bt.p=true then .val (.bool true) else .bad
 | .eql,.cN _,.aY=>if bt.p=true then .val (.bool false) else .bad
 | .neq,.cN _,.aY=>if bt.p=true then .val (.bool true) else .bad
 | .eql,.ah,.ah=>if bt.s=true then .val (.bool true) else .bad
 | .eql,.vec _ _ _,.ah=>if bt.s=true then .val (.bool false) else .bad
 | .eql,.ms _ _ _ _ _,.ah=>if bt.s=true then .val (.bool false) else .bad
 | _,_,_=>.bad
theorem XI (P:Program) (op:BinOp) (t:TypeId) (lit:Bool) (x y:AV):ax op (aay P t) lit x y=Hb P op t lit x y:=by
 unfold ax Hb LW
 cases op <;> cases x <;> cases y <;> rfl
def xh (P:Program) (t:TypeId):Option (List AV):=match fH P t with
 | some (e,_)=>qp P e
 | none=>none
def VJ (P:Program) (t:TypeId):Option (Bool × Nat):=match vD P t with
 | some (_,e,_)=>oP P e
 | none=>none
def SZ (P:Program) (t:TypeId):Option AV:=match rA P t with
 | some (_,e)=>zeroV P e
 | none=>none
def S8 (gt:Option (TypeId × Nat × List AV)) (ap:Option (TypeId × Nat)) (mu:Bool) (s y:AV) (U:St):aD :=
 match gt with
 | some q=>GB q mu s y
 | none=>eH ap mu s y U
def L7 (C:cQ) (mu:Bool) (c:Call) (ρ:Env) (U:St):aD :=
 match c.callee,c.argTypes.toList,c.args.toList with
 | .value (.func f),_,args=>if eX C.P f=true then .enter f (args.map (ρ.ev C)) else .bad
 | .value f,_,args=>iN C.P (ρ.ev C f) (args.map (ρ.ev C))
 | .builtin .len,[t],[x]=>cw (MV C.P t) (ρ.ev C x)
 | .builtin .append,[t,u],[s,y]=>S8 (CN C.P t u) (LR C.P t u) mu (ρ.ev C s) (ρ.ev C y) U
 | .builtin .cap,[t],[x]=>Hj (fH C.P t) (ρ.ev C x)
 | .builtin .min,_,[x,y]=>zG (ρ.ev C x) (ρ.ev C y)
 | .builtin .max,_,[x,y]=>B5 (ρ.ev C x) (ρ.ev C y)
 | .builtin .clear,[t],[x]=>CD (fH C.P t) (xh C.P t) (ρ.ev C x) U
 | _,_,_=>.bad
def tD (C:cQ) (mu:Bool) (o:Op) (ρ:Env) (U:St):aD :=
 match o with
 | .move x | .assign x=>.val (ρ.ev C x)
 | .pick c a b=>bQ (ρ.ev C c) (ρ.ev C a) (ρ.ev C b)
 | .alloc t=>Y8 t (qp C.P t)
 | .box _ x=>eS (ρ.ev C x)
 | .build t parts=>dO (AO C.P t) (qp C.P t) (vD C.P t) (mY C ρ parts)
 | .buildSlice t n parts=>ar (fH C.P t) (xh C.P t) n mu (mY C ρ parts)
 | .insert t m k v | .mapUpdate t m k v=>dX (rA C.P t) (ρ.ev C m) (ρ.ev C k) (ρ.ev C v) U
 | .load t a=>aj (oP C.P t) (ρ.ev C a) U
 | .store t a v=>aF (oP C.P t) (ρ.ev C a) (ρ.ev C v) U
 | .nilCheck x=>aW (ρ.ev C x)
 | .binOp op t x y _=>ax op (aay C.P t) (isLit x || isLit y) (ρ.ev C x) (ρ.ev C y)
 | .unOp op _ x=>kr op (ρ.ev C x)
 | .convert s d x=>GA (MM C.P d) (C.P.underlying s).isSome (oq C.P d && oq C.P s) (xI C.P d && oq C.P s) (ρ.ev C x)
 | .makeInterface t x=>xT (zJ C.P t) t (ρ.ev C x)
 | .makeFunc fn first cap=>.val (.func fn (first.toList.map (ρ.ev C)) (cap.toList.map (ρ.ev C)))
 | .makeMap _ none=>.vg
 | .slice t x lo hi none=>fG (oq C.P t) (fH C.P t) (ρ.ev C x) (lo.map (ρ.ev C)) (hi.map (ρ.ev C))
 | .fieldAddr s x f=>af (zi C.P s f) (ρ.ev C x)
 | .field s x f=>uV (Au C.P s f) (ρ.ev C x)
 | .indexAddr t x i=>aL (fH C.P t) (vD C.P t) (ρ.ev C x) (ρ.ev C i)
 | .index t x i=>iv (oq C.P t) (vD C.P t) (VJ C.P t) (ρ.ev C x) (ρ.ev C i)
 | .lookup t m k ok=>et (rA C.P t) (SZ C.P t) (ρ.ev C m) (ρ.ev C k) ok U
 | .extract t i=>aT (ρ.ev C t) i
 | .panic x=>uA (ρ.ev C x)
 | .range t m=>uF (rA C.P t) (ρ.ev C m)
 | .typeAssert x _ t ok=>vX (Al C.P t) (ρ.ev C x) t ok
 | .makeSlice t l c=>Dc (fH C.P t) (xh C.P t) mu (ρ.ev C l) (ρ.ev C c)
 | .next i false=>sJ (ρ.ev C i) U
 | .entry i=>mX (ρ.ev C i) U
 | .call c=>L7 C mu c ρ U
 | _=>.bad
theorem Th (C:cQ) (mu:Bool) (c:Call) (ρ:Env) (U:St):L7 C mu c ρ U=Aq C mu c ρ U:=by
 unfold L7 Aq
 obtain ⟨callee,⟨args⟩,⟨Xm⟩⟩:=c
 cases callee with
 | value f =>
   cases f <;> simp only [iN,Env.ev,jN,gy]
 | invoke r m=>rfl
 | builtin b =>
   cases b
   case clear =>
    dsimp only
    rcases Xm with _ | ⟨t,_ | ⟨u,_ | _⟩⟩ <;> rcases args with _ | ⟨x,_ | ⟨y,_ | _⟩⟩ <;> try rfl
    simp only [CD,zc,xh]
    generalize ρ.ev C x=y
    cases h:fH C.P t with
    | none=>rfl
    | some es=>(cases es; cases y <;> rfl)
   all_goals first | rfl | (dsimp only; rcases Xm with _ | ⟨t,_ | ⟨u,_ | _⟩⟩ <;> rcases args with _ | ⟨x,_ | ⟨y,_ | _⟩⟩ <;> rfl)
theorem qe (C:cQ) (mu:Bool) (o:Op) (ρ:Env) (U:St):tD C mu o ρ U=j6 C mu o ρ U:=by
 cases o with
 | binOp op t x y yt=>exact XI _ _ _ _ _ _
 | call c=>exact Th _ _ _ _ _
 | buildSlice t n parts =>
   simp only [tD,j6,ar,sF,xh]
   cases h:fH C.P t with
   | none=>rfl
   | some es=>(cases es; rfl)
 | index t x i =>
   simp only [tD,j6,iv,C2,VJ]
   generalize ρ.ev C x=y
   generalize ρ.ev C i=z
   cases h:vD C.P t with
   | none=>cases y <;> rfl
   | some es=>(cases es; cases y <;> cases z <;> rfl)
 | lookup t m k ok =>
   simp only [tD,j6,et,wP,SZ]
   generalize kB U (ρ.ev C m)=y
   cases h:rA C.P t with
   | none=>rfl
   | some es=>(cases es; cases y <;> rfl)
 | makeSlice t l c =>
   simp only [tD,j6,Dc,tO,xh]
   generalize ρ.ev C l=y
   generalize ρ.ev C c=z
   cases h:fH C.P t with
   | none=>rfl
   | some es=>(cases es; cases y <;> cases z <;> rfl)
 | convert s d x =>
   simp only [tD,j6,GA,Gz,bX]
   rfl
 | makeMap t r=>cases r <;> rfl
 | slice t x lo hi m=>cases m <;> rfl
 | next i b=>cases b <;> rfl
 | _=>rfl
end Go.Rip
namespace Go.Rip
open Go.RowKit
def Fn:Nat->Type
 | 0=>St->Prop
 | n+1=>AV->Fn n
namespace Fn
def app:(n:Nat)->Fn n->List AV->St->Prop
 | 0,f,_,U=>f U
 | n+1,f,x::xs,U=>app n (f x) xs U
 | n+1,f,[],U=>app n (f .any) [] U
def lam:(n:Nat)->(List AV->St->Prop)->Fn n
 | 0,F=>fun U=>F [] U
 | n+1,F=>fun x=>lam n (fun xs U=>F (x::xs) U)
theorem qF:∀ (n:Nat) (F:List AV->St->Prop) (xs:List AV) (U:St),xs.length=n->app n (lam n F) xs U=F xs U
 | 0,F,[],U,_=>rfl
 | n+1,F,x::xs,U,h=>qF n (fun xs U=>F (x::xs) U) xs U (by simpa using h)
 | 0,F,_::_,U,h=>by simp at h
 | n+1,F,[],U,h=>by simp at h
def imp:(n:Nat)->Fn n->Fn n->Prop
 | 0,f,g=>∀ U,f U->g U
 | n+1,f,g=>∀ x,imp n (f x) (g x)
theorem K9:∀ {n:Nat} {f g:Fn n},imp n f g->∀ (xs:List AV) (U:St),xs.length=n->app n f xs U->app n g xs U
 | 0,f,g,h,xs,U,_,hf=>h U hf
 | n+1,f,g,h,x::xs,U,hl,hf=>K9 (h x) xs U (by simpa using hl) hf
 | n+1,f,g,h,[],U,hl,hf=>by simp at hl
theorem Ku:∀ {n:Nat} {f g:Fn n},(∀ (xs:List AV) (U:St),xs.length=n->app n f xs U->app n g xs U)->imp n f g
 | 0,f,g,h=>fun U hf=>h [] U rfl hf
 | n+1,f,g,h=>fun x=>Ku fun xs U hl hf=>h (x::xs) U (by simpa using hl) hf
end Fn
def C9:List Nat->List AV->Nat->AV
 | s::ss,x::xs,t=>cond (Nat.beq t s) x (C9 ss xs t)
 | _,_,_=>.any
def DY (live:List Nat) (vs:List AV):Env:=⟨C9 live vs⟩
theorem FL (f:Nat->AV) (t:Nat):∀ live:List Nat,C9 live (live.map f) t=f t\/C9 live (live.map f) t=.any
 | []=>.inr rfl
 | s::ss=>by
   simp only [eC,C9]
   cases h:Nat.beq t s with
   | true=>have:=fm h; subst this; exact .inl rfl
   | false=>exact FL f t ss
theorem EX (ρ:Env) (live:List Nat) (t:Nat):(DY live (live.map ρ.get)).get t=ρ.get t\/(DY live (live.map ρ.get)).get t=.any:=FL ρ.get t live
section
variable {C:cQ} {nt:Nat} {ro:Ro} {U:St} {ρ:Env}
theorem bH.LL {c:Code} {Q:Ex->Env->St->Prop} {er:Env} (h:bH C nt ro c Q er U) (hw:∀ t,er.get t=ρ.get t\/er.get t=.any):bH C nt ro c Q ρ U :=
 fun g w a fr h1 h2 h3 h4 h5=>h g w a fr h1 h2 (fun t=>by
  rcases hw t with e | e
  . rw [e]; exact h3 t
  . rw [e]; simp only [az]) h4 h5
end
structure Qx where
 n:Env->St->Prop
 e:Nat->Env->St->Prop
 r:Env->St->Prop
 p:AV->St->Prop
def Qx.q (Q:Qx):Ex->Env->St->Prop
 | .normal,ρ,U=>Q.n ρ U
 | .exit i,ρ,U=>Q.e i ρ U
 | .ret,ρ,U=>Q.r ρ U
 | .panic x,_,U=>Q.p x U
def adq (ops:Array Oper) (j:Nat):Option Nat:=(ops[j]?).bind (·.dst)
def aP (v:AV) (want:Bool):AV:=match v with
 | .bool b=>.bool (b == want)
 | .aH []=>.bool false
 | _=>.any
def HC (ops:Array Oper) (ρ:Env) (jw:Nat × Bool):AV:=match adq ops jw.1 with
 | some d=>aP (ρ.get d) jw.2
 | none=>.any
theorem HD (ops:Array Oper) (ρ:Env) (jw:Nat × Bool):iz ops ρ (some jw)=HC ops ρ jw:=rfl
def Eu (b:Bool) (v:AV):AV:=match b with
 | true=>v
 | false=>.aH []
def fg (C:cQ) (b:Bool):aD->(AV->Prop)->Prop
 | .val v,k=>k (Eu b v)
 | @aD.cond p _ r,k=>(b=true->p)/\fg C b r k
 | .enter f args,k=>∃ v,(b=true->Pure C f args v)/\k (Eu b v)
 | _,k=>b=false/\k (.aH [])
def ao (C:cQ) (gv:AV) (r:aD) (k:AV->Prop):Prop:=match gv with
 | .bool b=>fg C b r k
 | _=>False
theorem BC {C:cQ}:∀ (r:aD) {k:AV->Prop},fg C true r k->∃ v,r.yv C v/\k v
 | .val v,k,h=>⟨v,rfl,h⟩
 | @aD.cond _ _ r,k,h=>let ⟨v,h1,h2⟩:=BC r h.2; ⟨v,⟨h.1 rfl,h1⟩,h2⟩
 | .enter _ _,k,h=>let ⟨v,h1,h2⟩:=h; ⟨v,h1 rfl,h2⟩
 | .iH _ _ _,_,h=>by cases h.1
 | .new _ _ _,_,h=>by cases h.1
 | .lW _ _,_,h=>by cases h.1
 | .yield _ _,_,h=>by cases h.1
 | .panic _,_,h=>by cases h.1
 | .bad,_,h=>by cases h.1
theorem zU {C:cQ}:∀ (r:aD) {k:AV->Prop},fg C false r k->k (.aH [])
 | .val v,k,h=>h
 | @aD.cond _ _ r,k,h=>zU r h.2
 | .enter _ _,k,h=>let ⟨v,h1,h2⟩:=h; h2
 | .iH _ _ _,_,h=>h.2
 | .new _ _ _,_,h=>h.2
 | .lW _ _,_,h=>h.2
 | .yield _ _,_,h=>h.2
 | .panic _,_,h=>h.2
 | .bad,_,h=>h.2
theorem zV {C:cQ} {gv:AV} {r:aD} {k:AV->Prop} (h:ao C gv r k):(gv=.bool true/\∃ v,r.yv C v/\k v)\/(gv=.bool false/\k (.aH [])):=by
 cases gv <;> simp only [ao] at h
 rename_i b
 cases b
 . exact .inr ⟨rfl,zU r h⟩
 . exact .inl ⟨rfl,BC r h⟩
def abx (pf:List Nat) (o:Op):Bool:=match o with
 | .call c=>match c.callee with
   | .value (.func f)=>pf.any fun g=>Nat.beq g f
   | .value _=>false
   | _=>quiet o
 | o=>quiet o
def D8 (C:cQ) (o:Op) (ρ:Env):Option AV:=match o with
 | .move x | .assign x=>some (ρ.ev C x)
 | .makeFunc fn first cap=>some (.func fn (first.toList.map (ρ.ev C)) (cap.toList.map (ρ.ev C)))
 | _=>none
theorem Ay {C:cQ} {o:Op} {ρ:Env} {v:AV} (h:D8 C o ρ=some v) (mu:Bool) (U:St):tD C mu o ρ U=.val v:=by
 unfold D8 at h
 split at h
 . cases h; rfl
 . cases h; rfl
 . cases h; rfl
 . cases h
def vO (C:cQ) (mu pf:List Nat) (ops:Array Oper):List Oper->Env->St->(Env->St->Prop)->(AV->St->Prop)->Prop
 | [],ρ,U,K,_=>K ρ U
 | o::rest,ρ,U,K,Kp=>match o.guard with
   | none=>match D8 C o.op ρ with
     | some v=>vO C mu pf ops rest (ρ.eM o.dst v) U K Kp
     | none=>(tD C (oM mu o) o.op ρ U).wp C U (fun v U=>vO C mu pf ops rest (ρ.eM o.dst v) U K Kp) Kp
   | some jw=>match abx pf o.op with
     | true=>ao C (HC ops ρ jw) (tD C (oM mu o) o.op ρ U) (fun v=>vO C mu pf ops rest (ρ.eM o.dst v) U K Kp)
     | false=>aw (HC ops ρ jw) ((tD C (oM mu o) o.op ρ U).wp C U (fun v U=>vO C mu pf ops rest (ρ.eM o.dst v) U K Kp) Kp)
       (vO C mu pf ops rest (ρ.eM o.dst (.aH [])) U K Kp)
theorem wS {C:cQ} {mu pf:List Nat} {ops:Array Oper} {K:Env->St->Prop} {Kp:AV->St->Prop}:∀ (l:List Oper) (ρ:Env) (U:St),
 vO C mu pf ops l ρ U K Kp->pR C mu ops l ρ U K Kp
 | [],_,_,h=>h
 | o::rest,ρ,U,h=>by
   have step:∀ {r:aD},r.wp C U (fun v U=>vO C mu pf ops rest (ρ.eM o.dst v) U K Kp) Kp ->
    r.wp C U (fun v ad=>pR C mu ops rest (ρ.eM o.dst v) ad K Kp) Kp:=fun hr=>aD.wp_mono (fun v ad hv=>wS rest _ _ hv) _ hr
   simp only [vO] at h
   simp only [pR]
   show aw (iz ops ρ o.guard) ((j6 C (oM mu o) o.op ρ U).wp C U (fun v ad=>pR C mu ops rest (ρ.eM o.dst v) ad K Kp) Kp) (pR C mu ops rest (ρ.eM o.dst (.aH [])) U K Kp)
   rw [<- qe]
   cases hg:o.guard with
   | none =>
     rw [hg] at h
     simp only at h
     refine ⟨fun _=>?_,fun hf=>(by cases hf)⟩
     split at h
     . rename_i v hv
       rw [Ay hv]
       exact wS rest _ _ h
     . exact step h
   | some jw =>
     rw [hg] at h
     simp only at h
     rw [HD]
     split at h
     . rcases zV h with ⟨hb,v,hv,hk⟩ | ⟨hb,hk⟩
       . rw [hb]
         refine ⟨fun _=>?_,fun hf=>(by cases hf)⟩
         exact aD.NU _ hv (wS rest _ _ hk)
       . rw [hb]
         exact ⟨fun hf=>(by cases hf),fun _=>wS rest _ _ hk⟩
     . cases hv:HC ops ρ jw <;> rw [hv] at h <;> simp only [aw] at h ⊢
       exact ⟨fun e=>step (h.1 e),fun e=>wS rest _ _ (h.2 e)⟩
def aB (C:cQ):aD->(AV->Prop)->Prop
 | .val v,k=>k v
 | @aD.cond p _ r,k=>p/\aB C r k
 | .enter f args,k=>∃ v,Pure C f args v/\k v
 | _,_=>False
theorem F1 {C:cQ}:∀ (r:aD) {k:AV->Prop},aB C r k->∃ v,r.yv C v/\k v
 | .val v,k,h=>⟨v,rfl,h⟩
 | @aD.cond _ _ r,k,h=>let ⟨v,h1,h2⟩:=F1 r h.2; ⟨v,⟨h.1,h1⟩,h2⟩
 | .enter _ _,k,h=>h
 | .iH _ _ _,_,h=>h.elim
 | .new _ _ _,_,h=>h.elim
 | .lW _ _,_,h=>h.elim
 | .yield _ _,_,h=>h.elim
 | .panic _,_,h=>h.elim
 | .bad,_,h=>h.elim
def CS (C:cQ) (ρ:Env) (o:Op):List Nat:=o.operands.toList.flatMap fun x=>eL (ρ.ev C x)
def rdW (b:Bool) (P k:Prop):Prop:=match b with
 | true=>P/\k
 | false=>k
def ixW (b:Bool) (P k:Prop):Prop:=match b with
 | true=>k
 | false=>P/\k
theorem Pv {ops:Array Oper} {i:Nat} {I:St->Prop} {U:St} {k:Prop} (h:ixW (sQ ops i) (I U) k):Ix ops I i U/\k:=by
 unfold Ix
 cases ha:sQ ops i <;> rw [ha] at h <;> simp only [ixW] at h
 . exact ⟨.inr h.1,h.2⟩
 . exact ⟨.inl (by unfold oV; rw [ha]; rfl),h⟩
def zW (C:cQ) (ops:Array Oper) (ρ:Env) (g:Option (Nat × Bool)) (i:Option AV) (r:aD) (k:AV->Prop):Prop:=match g with
 | none=>match i with
   | some v=>k v
   | none=>aB C r k
 | some jw=>ao C (HC ops ρ jw) r k
def gW (ops:Array Oper) (ρ:Env) (g:Option (Nat × Bool)) (A B:Prop):Prop:=match g with
 | none=>A
 | some jw=>aw (HC ops ρ jw) A B
def pE (C:cQ) (mu:List Nat) (ops:Array Oper) (aq:St) (K:Env->St->Prop) (Kp:AV->St->Prop) (B:List Nat):List (Bool × Nat)->Env->St->Prop
 | [],ρ,U=>K ρ U
 | (true,i)::r,ρ,U=>match ops[i]? with
   | none=>False
   | some o=>match quiet o.op with
     | false=>False
     | true=>rdW (pG o.op) (∀ b ∈ CS C ρ o.op,b ∈ B) (zW C ops ρ o.guard (D8 C o.op ρ) (tD C (oM mu o) o.op ρ aq) fun v=>pE C mu ops aq K Kp B r (ρ.eM o.dst v) U)
 | (false,i)::r,ρ,U=>match ops[i]? with
   | none=>False
   | some o=>gW ops ρ o.guard ((tD C (oM mu o) o.op ρ U).wp C U (fun v U=>ixW (sQ ops i) (cY B aq U) (pE C mu ops aq K Kp B r (ρ.eM o.dst v) U)) Kp)
      (pE C mu ops aq K Kp B r (ρ.eM o.dst (.aH [])) U)
def GL (C:cQ) (mu:List Nat) (ops:Array Oper) (aq:St) (K:Env->St->Prop) (Kp:AV->St->Prop):List (Bool × Nat)->List Nat->Env->St->Prop
 | [],_,ρ,U=>K ρ U
 | (true,i)::r,B,ρ,U=>match ops[i]? with
   | none=>False
   | some o=>match quiet o.op with
     | false=>False
     | true=>zW C ops ρ o.guard (D8 C o.op ρ) (tD C (oM mu o) o.op ρ aq) fun v=>GL C mu ops aq K Kp r (match pG o.op with | true=>CS C ρ o.op++B | false=>B) (ρ.eM o.dst v) U
 | (false,i)::r,B,ρ,U=>pE C mu ops aq K Kp B ((false,i)::r) ρ U
def xZ (C:cQ) (mu:List Nat) (ops:Array Oper) (aq:St) (K:Env->St->Prop) (Kp:AV->St->Prop):List (Bool × Nat)->Env->St->Prop
 | [],ρ,U=>K ρ U
 | (true,i)::r,ρ,U=>match ops[i]? with
   | none=>False
   | some o=>match quiet o.op with
     | false=>False
     | true=>zW C ops ρ o.guard (D8 C o.op ρ) (tD C (oM mu o) o.op ρ aq) fun v=>xZ C mu ops aq K Kp r (ρ.eM o.dst v) U
 | (false,i)::r,ρ,U=>match oV ops i,ops[i]? with
   | true,some o=>gW ops ρ o.guard ((tD C (oM mu o) o.op ρ U).wp C U (fun v U=>xZ C mu ops aq K Kp r (ρ.eM o.dst v) U) Kp) (xZ C mu ops aq K Kp r (ρ.eM o.dst (.aH [])) U)
   | _,_=>False
section
variable {C:cQ} {mu:List Nat} {ops:Array Oper} {aq:St} {K:Env->St->Prop} {Kp:AV->St->Prop}
theorem BY {ρ:Env} {g:Option (Nat × Bool)} {A B:Prop} (h:gW ops ρ g A B):(iz ops ρ g=.bool true/\A)\/(iz ops ρ g=.bool false/\B):=by
 unfold gW at h
 cases g with
 | none=>exact .inl ⟨rfl,h⟩
 | some jw =>
   simp only at h
   rw [HD]
   cases hv:HC ops ρ jw <;> rw [hv] at h <;> simp only [aw] at h
   rename_i b
   cases b
   . exact .inr ⟨rfl,h.2 rfl⟩
   . exact .inl ⟨rfl,h.1 rfl⟩
theorem uD {ρ:Env} {g:Option (Nat × Bool)} {i:Option AV} {r:aD} {k:AV->Prop} (hi:∀ v,i=some v->r=.val v) (h:zW C ops ρ g i r k):(iz ops ρ g=.bool true/\∃ v,r.yv C v/\k v)\/(iz ops ρ g=.bool false/\k (.aH [])):=by
 unfold zW at h
 cases g with
 | none =>
   cases i with
   | none=>exact .inl ⟨rfl,F1 r h⟩
   | some v=>rw [hi v rfl]; exact .inl ⟨rfl,v,rfl,h⟩
 | some jw=>simp only at h; rw [HD]; exact zV h
theorem xw {ρ:Env} {o:Op} {x:Operand} (hx:x ∈ o.operands.toList) {b:Nat} (hb:b ∈ eL (ρ.ev C x)):b ∈ CS C ρ o:=List.mem_flatMap.2 ⟨x,hx,hb⟩
theorem qS (B:List Nat):∀ (l:List (Bool × Nat)) (ρ:Env) (U:St),pE C mu ops aq K Kp B l ρ U->mh C mu ops B aq K Kp l ρ U
 | [],_,_,h=>h
 | (true,i)::r,ρ,U,h=>by
   simp only [pE] at h
   split at h
   . exact h.elim
   . rename_i o ho
     split at h
     . exact h.elim
     . rename_i hq
       have key:∀ {P k:Prop},rdW (pG o.op) P k->(pG o.op=true->P)/\k:=fun {P k} h=>by
        cases hr:pG o.op <;> rw [hr] at h <;> simp only [rdW] at h
        . exact ⟨fun h=>(by cases h),h⟩
        . exact ⟨fun _=>h.1,h.2⟩
       obtain ⟨hB,h⟩:=key h
       rcases uD (fun v hv=>Ay hv _ _) h with ⟨hg,v,hv,hk⟩ | ⟨hg,hk⟩
       . rw [qe] at hv
         exact ⟨o,v,ho,.inl ⟨hg,hq,fun hr x hx b hb=>hB hr b (xw hx hb),hv⟩,qS B r _ _ hk⟩
       . exact ⟨o,.aH [],ho,.inr ⟨hg,rfl⟩,qS B r _ _ hk⟩
 | (false,i)::r,ρ,U,h=>by
   simp only [pE] at h
   simp only [mh,lL]
   split at h
   . exact h.elim
   . rename_i o ho
     rw [ho]
     simp only
     rw [qe] at h
     rcases BY h with ⟨hg,h⟩ | ⟨hg,h⟩
     . rw [hg]
       exact ⟨fun _=>aD.wp_mono (fun v U hv=>⟨(Pv (I:=cY B aq) hv).1,qS B r _ _ (Pv (I:=cY B aq) hv).2⟩) _ h,fun h=>by cases h⟩
     . rw [hg]
       exact ⟨fun h=>(by cases h),fun _=>qS B r _ _ h⟩
theorem En:∀ (l:List (Bool × Nat)) (B:List Nat) (ρ:Env) (U:St),GL C mu ops aq K Kp l B ρ U->∃ B',(∀ b ∈ B,b ∈ B')/\mh C mu ops B' aq K Kp l ρ U
 | [],B,_,_,h=>⟨B,fun _ h=>h,h⟩
 | (true,i)::r,B,ρ,U,h=>by
   simp only [GL] at h
   split at h
   . exact h.elim
   . rename_i o ho
     split at h
     . exact h.elim
     . rename_i hq
       rcases uD (fun v hv=>Ay hv _ _) h with ⟨hg,v,hv,hk⟩ | ⟨hg,hk⟩
       . rw [qe] at hv
         obtain ⟨B',hB,hA⟩:=En r _ _ _ hk
         refine ⟨B',fun b hb=>hB b ?_,o,v,ho,.inl ⟨hg,hq,fun hr x hx b hb=>hB b ?_,hv⟩,hA⟩
         . split
           . exact List.mem_append_right _ hb
           . exact hb
         . rw [hr]; exact List.mem_append_left _ (xw hx hb)
       . obtain ⟨B',hB,hA⟩:=En r _ _ _ hk
         refine ⟨B',fun b hb=>hB b ?_,o,.aH [],ho,.inr ⟨hg,rfl⟩,hA⟩
         split
         . exact List.mem_append_right _ hb
         . exact hb
 | (false,i)::r,B,ρ,U,h=>⟨B,fun _ h=>h,qS B _ _ _ h⟩
end
def GH:List (Bool × Nat)->Bool
 | []=>true
 | (true,_)::r=>GH r
 | (false,_)::r=>r.isEmpty
theorem Em {C:cQ} {mu:List Nat} {ops:Array Oper} {aq:St} {K:Env->St->Prop} {Kp:AV->St->Prop}:∀ (l:List (Bool × Nat)) (B:List Nat) (ρ:Env) (U:St),GH l=true->xZ C mu ops aq K Kp l ρ U->∃ B',(∀ b ∈ B,b ∈ B')/\mh C mu ops B' aq K Kp l ρ U
 | [],B,_,_,_,h=>⟨B,fun _ h=>h,h⟩
 | (true,i)::r,B,ρ,U,hl,h=>by
   simp only [xZ] at h
   split at h
   . exact h.elim
   . rename_i o ho
     split at h
     . exact h.elim
     . rename_i hq
       rcases uD (fun v hv=>Ay hv _ _) h with ⟨hg,v,hv,hk⟩ | ⟨hg,hk⟩
       . rw [qe] at hv
         obtain ⟨B',hB,hA⟩:=Em r (CS C ρ o.op++B) _ _ hl hk
         exact ⟨B',fun b hb=>hB b (List.mem_append_right _ hb),o,v,ho,.inl ⟨hg,hq,fun hr x hx b hb=>hB b (List.mem_append_left _ (xw hx hb)),hv⟩,hA⟩
       . obtain ⟨B',hB,hA⟩:=Em r B _ _ hl hk
         exact ⟨B',hB,o,.aH [],ho,.inr ⟨hg,rfl⟩,hA⟩
 | (false,i)::r,B,ρ,U,hl,h=>by
   obtain rfl:r=[]:=by simpa [GH] using hl
   refine ⟨B,fun _ h=>h,?_⟩
   simp only [xZ] at h
   simp only [mh,lL]
   split at h
   . rename_i o KW ho
     rw [ho]
     simp only
     rw [qe] at h
     rcases BY h with ⟨hg,h⟩ | ⟨hg,h⟩
     . rw [hg]
       exact ⟨fun _=>aD.wp_mono (fun v U hv=>⟨.inl KW,hv⟩) _ h,fun h=>by cases h⟩
     . rw [hg]
       exact ⟨fun h=>(by cases h),fun _=>h⟩
   . exact h.elim
def zO (C:cQ) (mu:List Nat) (ops:Array Oper) (aq:St) (Kp:AV->St->Prop) (B:List Nat) (o:Oper) (K:Env->St->Prop) (ρ:Env) (U:St):Prop :=
 gW ops ρ o.guard ((tD C (oM mu o) o.op ρ U).wp C U (fun v U=>cY B aq U/\K (ρ.eM o.dst v) U) Kp) (K (ρ.eM o.dst (.aH [])) U)
def NG (C:cQ) (mu:List Nat) (ops:Array Oper) (aq:St) (K:Env->St->Prop) (Kp:AV->St->Prop) (B:List Nat) (i j:Nat) (post:List (Bool × Nat)) (ρ:Env) (U:St):Prop:=match ops[i]?,ops[j]? with
 | some oi,some oj=>zO C mu ops aq Kp B oi (fun ρ U=>zO C mu ops aq Kp B oj (fun ρ U=>pE C mu ops aq K Kp B post ρ U) ρ U) ρ U /\
    zO C mu ops aq Kp B oj (fun ρ U=>zO C mu ops aq Kp B oi (fun ρ U=>pE C mu ops aq K Kp B post ρ U) ρ U) ρ U
 | _,_=>False
def NF (ops:Array Oper) (pre:List (Bool × Nat)) (i j:Nat) (post:List (Bool × Nat)):Bool :=
 (match ph ops pre (Array.replicate ops.size false) with
   | some l=>(Region.ready .any ops l == [i,j]) && ((Region.ready .any ops (l.setIfInBounds i true) == [j]) && ((Region.ready .any ops (l.setIfInBounds j true) == [i]) && (!Nat.beq i j && iV ops post ((l.setIfInBounds i true).setIfInBounds j true))))
   | none=>false) && Nat.beq (pre.length+(post.length+2)) ops.size
section
variable {C:cQ} {mu:List Nat} {ops:Array Oper} {aq:St} {K:Env->St->Prop} {Kp:AV->St->Prop} {B:List Nat}
theorem FV {i:Nat} {o:Oper} {K0 K1:Env->St->Prop} {I':St->Prop} (ho:ops[i]?=some o) (hI:∀ U,cY B aq U->I' U) (hk:∀ ρ U,cY B aq U->K0 ρ U->K1 ρ U) {ρ:Env} {U:St} (hs:cY B aq U) (h:zO C mu ops aq Kp B o K0 ρ U):lL C mu ops I' i K1 Kp ρ U:=by
 unfold lL
 rw [ho]
 dsimp only
 unfold zO at h
 rw [qe] at h
 rcases BY h with ⟨hg,h⟩ | ⟨hg,h⟩
 . rw [hg]
   exact ⟨fun _=>aD.wp_mono (fun v U hv=>⟨hI _ hv.1,hk _ _ hv.1 hv.2⟩) _ h,fun h=>by cases h⟩
 . rw [hg]
   exact ⟨fun h=>(by cases h),fun _=>hk _ _ hs h⟩
theorem YW {i j:Nat} {post:List (Bool × Nat)} {rj:Array Bool} (h1:Region.ready .any ops rj=[i,j]) (h2:Region.ready .any ops (rj.setIfInBounds i true)=[j]) (h3:Region.ready .any ops (rj.setIfInBounds j true)=[i]) (fP:i ≠ j)
 (h4:iV ops post ((rj.setIfInBounds i true).setIfInBounds j true)=true) {ρ:Env} {U:St} (hD:Dn ops rj) (hI:cY B aq U) (h:NG C mu ops aq K Kp B i j post ρ U):mV C mu ops (cY B aq) K Kp (post.length+2) rj ρ U:=by
 unfold NG at h
 split at h
 . rename_i oi oj Wd pa
   have key:∀ (a b:Nat) (oa ob:Oper),ops[a]?=some oa->ops[b]?=some ob->a ∈ Region.ready .any ops rj->Region.ready .any ops (rj.setIfInBounds a true)=[b]->iV ops post ((rj.setIfInBounds a true).setIfInBounds b true)=true ->
    zO C mu ops aq Kp B oa (fun ρ U=>zO C mu ops aq Kp B ob (fun ρ U=>pE C mu ops aq K Kp B post ρ U) ρ U) ρ U ->
    lL C mu ops (Ix ops (cY B aq) a) a (mV C mu ops (cY B aq) K Kp (post.length+1) (rj.setIfInBounds a true)) Kp ρ U:=by
    intro a b oa ob hoa hob hra KZ mZ hw
    refine FV hoa (fun _ h=>.inr h) (fun ρ1 aR zw hw1=>?_) hI hw
    refine ⟨fun h0=>(by rw [KZ] at h0; cases h0),fun c hc=>?_⟩
    have KO:=hc
    rw [KZ,jz] at hc
    subst hc
    exact FV hob (fun _ h=>.inr h) (fun rT a7 rW Wp=>sY post _ rT a7 mZ ((hD.set hra).set KO) (.inr rW) (qS B _ _ _ Wp)) zw hw1
   refine ⟨fun h0=>(by rw [h1] at h0; cases h0),fun c hc=>?_⟩
   have KO:=hc
   rw [h1] at hc
   simp only [cD,List.not_mem_nil,or_false] at hc
   rcases hc with rfl | rfl
   . exact key _ _ _ _ Wd pa KO h2 h4 h.1
   . exact key _ _ _ _ pa Wd KO h3 (by rw [Array.setIfInBounds_comm _ _ fP.symm]; exact h4) h.2
 . exact h.elim
theorem tI {I:St->Prop} {Kp yC:AV->St->Prop} (hp:∀ v U,Kp v U->yC v U):∀ (n:Nat) (listed:Array Bool) (ρ:Env) (U:St),mV C mu ops I K Kp n listed ρ U->mV C mu ops I K yC n listed ρ U
 | 0,_,_,_,h=>h
 | n+1,listed,ρ,U,h=>⟨h.1,fun i hi=>by
   have h2:=h.2 i hi
   unfold lL at h2 ⊢
   split
   . rename_i ho; rw [ho] at h2; exact tI hp n _ _ _ h2
   . rename_i o ho
     rw [ho] at h2
     dsimp only at h2 ⊢
     cases hg:iz ops ρ o.guard <;> rw [hg] at h2 <;> simp only [aw] at h2 ⊢
     exact ⟨fun e=>aD.wp_mono (fun v U hv=>⟨hv.1,tI hp n _ _ _ hv.2⟩) _ (aD.Cs hp _ (h2.1 e)),fun e=>tI hp n _ _ _ (h2.2 e)⟩⟩
theorem bH.Qf {nt id:Nat} {ro:Ro} {Q:Ex->Env->St->Prop} {ρ:Env} {U:St} (pre:List (Bool × Nat)) (i j:Nat) (post:List (Bool × Nat)) (hm:C.P.follows .mixedOrders=true) (cK:lJ nt ops=true) (hp:NF ops pre i j post=true) (VZ:∀ v U,Kp v U->yD Q v U)
 (h:pE C mu ops U (fun er ad=>NG C mu ops U (KQ Q) Kp B i j post er ad) Kp B pre ρ U):bH C nt ro (.region id ops true) Q ρ U:=by
 simp only [NF,bX] at hp
 obtain ⟨h1,h2⟩:=hp
 have h2:=fm h2
 split at h1
 . rename_i l hl
   simp only [bX,beq_iff_eq,Bool.not_eq_true'] at h1
   obtain ⟨k1,k2,k3,k4,k5⟩:=h1
   have fP:i ≠ j:=fun e=>by subst e; simp at k4
   refine bH.zZ mu (cY B U) hm cK (tI VZ _ _ _ _ ?_)
   have:=xY (fun er ad hD hI hw=>YW k1 k2 k3 fP k5 hD hI hw) pre _ ρ U hl (Dn.none _ _) (fun _ _=>rfl) (qS B _ _ _ h)
   rw [h2] at this
   exact this
 . cases h1
end
structure Qr where
 Dd:(St->Prop)->St->Prop
 n:St->Prop
 e:Nat->St->Prop
 r:St->Prop
def tp:Nat->Type
 | 0=>Qr->St->Prop
 | n+1=>AV->tp n
def tp.app:(n:Nat)->tp n->List AV->Qr->St->Prop
 | 0,f,_,q,U=>f q U
 | n+1,f,x::xs,q,U=>tp.app n (f x) xs q U
 | n+1,f,[],q,U=>tp.app n (f .any) [] q U
def tp.lam:(n:Nat)->(List AV->Qr->St->Prop)->tp n
 | 0,F=>fun q U=>F [] q U
 | n+1,F=>fun x=>tp.lam n (fun xs q U=>F (x::xs) q U)
theorem tp.qF:∀ (n:Nat) (F:List AV->Qr->St->Prop) (xs:List AV) (q:Qr) (U:St),xs.length=n->tp.app n (tp.lam n F) xs q U=F xs q U
 | 0,F,[],q,U,_=>rfl
 | n+1,F,x::xs,q,U,h=>tp.qF n (fun xs U=>F (x::xs) U) xs q U (by simpa using h)
 | 0,F,_::_,q,U,h=>by simp at h
 | n+1,F,[],q,U,h=>by simp at h
def fF.st (L:fF) (s:LoopState) (p:Option Code):fF:={ L with state:=s,fZ:=p }
def afQ (o:Nat) (k:St->Prop) (U:St):Prop:=∃ L,U.loop o=some L/\L.state=.ready/\k (U.set o (.loop { L with state:=.busy }))
def afT (o:Nat) (R:cR->St->Prop):Qr where
 Dd:=afQ o
 n:=fun U=>∃ L,U.loop o=some L/\R (.ret (.bool true)) (U.set o (.loop { L with state:=.ready,fZ:=none }))
 e:=fun id U=>∃ L,U.loop o=some L/\R (.ret (.bool false)) (U.set o (.loop { L with state:=.done,fZ:=some (.exit id) }))
 r:=fun U=>∃ L,U.loop o=some L/\R (.ret (.bool false)) (U.set o (.loop { L with state:=.done,fZ:=some .ret }))
def I6 (o:Nat) (Kn:St->Prop) (Ke:Nat->St->Prop) (Kr:St->Prop) (Kp:AV->St->Prop):cR->St->Prop
 | .ret _,ad=>∃ L,ad.loop o=some L/\L.state ≠ .busy/\(match L.fZ with
   | none=>Kn (ad.del o)
   | some .ret=>Kr (ad.del o)
   | some (.exit id)=>Ke id (ad.del o)
   | _=>False)
 | .panic x,ad=>Kp x ad
def rG (C:cQ) (np:Nat) (fv:AV) (U:St) (B:tp np) (Kn:St->Prop) (Ke:Nat->St->Prop) (Kr:St->Prop) (Kp:AV->St->Prop):Prop :=
 match fv with
 | .func (.func kM) first cap=>eX C.P kM=true/\∀ (o:Nat) (L:fF),U.dD o->L.state=.ready->L.fZ=none ->
   (∀ (args:List AV) (aR:St) (R:cR->St->Prop) (L1:fF),args.length=np->aR.loop o=some L1->L1.st .ready none=L->tp.app np B args (afT o R) aR->mU C o args aR R) ->
   ae C kM (first++[.rZ o]++cap) (U.new o (.loop L)) (I6 o Kn Ke Kr Kp)
 | _=>False
def Ht (b:Bool) (A B:Prop):Prop:=match b with
 | true=>A
 | false=>B
def jR (n:Nat) (J:Fn n) (B:Fn n->Prop):Prop:=∀ j:Fn n,Fn.imp n J j->B j
def eW (n:Nat) (init:List AV) (U:St) (B:Fn n->Fn n):Prop :=
 ∃ I:Nat->Fn n,(∃ m,Fn.app n (I m) init U)/\∀ m,Fn.imp n (I m) (B (Fn.lam n fun vs U=>∃ m',m' < m/\Fn.app n (I m') vs U))
inductive An where
 | z
 | sq (live:Option (List Nat)) (a b:An)
 | cd (a b:An)
 | bk (a:An)
 | lp (live:List Nat) (a:An)
 | rg (mu pf:List Nat) (dt:Option Pl)
 | rb (mu:List Nat) (dt:Pl)
 | rl (mu:List Nat) (dt:Pl)
 | r2 (mu:List Nat) (pre:List (Bool × Nat)) (i j:Nat) (post:List (Bool × Nat))
 | rf (a b:An)
def oz (C:cQ):Code->An->Qx->Env->St->Prop
 | .skip,_,Q,ρ,U=>Q.n ρ U
 | .exit i,_,Q,ρ,U=>Q.e i ρ U
 | .ret,_,Q,ρ,U=>Q.r ρ U
 | .seq a b,.sq none x y,Q,ρ,U=>oz C a x { Q with n:=fun ρ U=>oz C b y Q ρ U } ρ U
 | .seq a b,.sq (some live) x y,Q,ρ,U=>jR live.length (Fn.lam live.length fun vs U=>oz C b y Q (DY live vs) U)
    fun j=>oz C a x { Q with n:=fun ρ U=>Fn.app live.length j (live.map ρ.get) U } ρ U
 | .cond c a b,.cd x y,Q,ρ,U=>aw (ρ.ev C c) (oz C a x Q ρ U) (oz C b y Q ρ U)
 | .block i a,.bk x,Q,ρ,U=>oz C a x { Q with e:=fun k ρ U=>Ht (Nat.beq k i) (Q.n ρ U) (Q.e k ρ U) } ρ U
 | .loop a,.lp live x,Q,ρ,U=>eW live.length (live.map ρ.get) U fun lp=>Fn.lam live.length fun vs U =>
    oz C a x { Q with n:=fun ρ U=>Fn.app live.length lp (live.map ρ.get) U } (DY live vs) U
 | .region _ ops false,.rg mu pf none,Q,ρ,U=>vO C mu pf ops ops.toList ρ U Q.n Q.p
 | .region _ ops true,.rg mu pf (some dt),Q,ρ,U=>GL C mu ops U Q.n Q.p dt.steps [] ρ U
 | .region _ ops true,.rb mu dt,Q,ρ,U=>∃ B:List Nat,pE C mu ops U Q.n Q.p B dt.steps ρ U
 | .region _ ops true,.rl mu dt,Q,ρ,U=>xZ C mu ops U Q.n Q.p dt.steps ρ U
 | .region _ ops true,.r2 mu pre i j post,Q,ρ,U=>∃ B:List Nat,pE C mu ops U (fun er ad=>NG C mu ops U Q.n Q.p B i j post er ad) Q.p B pre ρ U
 | .rangeFunc f ps a b,.rf x y,Q,ρ,U=>rG C ps.size (ρ.ev C f) U (tp.lam ps.size fun args qr U=>oz C a x
    { n:=fun ρ U=>qr.Dd (fun U=>oz C b y { n:=fun _ U=>qr.n U,e:=fun i _ U=>qr.e i U,r:=fun _ U=>qr.r U,p:=fun _ _=>False } ρ U) U,e:=fun _ _ _=>False,r:=fun _ _=>False,p:=fun _ _=>False }
    ⟨x9 ρ.get ps.toList args⟩ U) (fun U=>Q.n ρ U) (fun i U=>Q.e i ρ U) (fun U=>Q.r ρ U) (fun x U=>Q.p x U)
 | _,_,_,_,_=>False
def mI (nt:Nat):Bool->Code->An->Bool
 | _,.skip,_=>true
 | _,.exit _,_=>true
 | _,.ret,_=>true
 | top,.seq a b,.sq _ x y=>mI nt top a x && mI nt top b y
 | top,.cond _ a b,.cd x y=>mI nt top a x && mI nt top b y
 | top,.block _ a,.bk x=>mI nt top a x
 | top,.loop a,.lp _ x=>mI nt top a x
 | _,.region _ ops false,.rg _ _ none=>lJ nt ops
 | _,.region _ ops true,.rg _ _ (some dt)=>lJ nt ops && IS ops dt
 | _,.region _ ops true,.rb _ dt=>lJ nt ops && IS ops dt
 | _,.region _ ops true,.rl _ dt=>lJ nt ops && (IS ops dt && GH dt.steps)
 | _,.region _ ops true,.r2 _ pre i j post=>lJ nt ops && NF ops pre i j post
 | top,.rangeFunc _ ps a b,.rf x y=>top && ps.toList.all (fun t=>Nat.blt t nt) && mI nt false a x && mI nt false b y
 | _,_,_=>false
theorem Ah {C:cQ} {nt:Nat} (hm:C.P.follows .mixedOrders=true):∀ (c:Code) (an:An) (top:Bool) (ro:Ro) (Q:Qx) (ρ:Env) (U:St),mI nt top c an=true->(top=true->ro=.fn) ->
 oz C c an Q ρ U->bH C nt ro c Q.q ρ U:=by
 intro c
 induction c with
 | skip=>intro an top ro Q ρ U cK ht h; exact bH.skip h
 | exit i=>intro an top ro Q ρ U cK ht h; exact bH.exit h
 | ret=>intro an top ro Q ρ U cK ht h; exact bH.ret h
 | seq a b wJ K7 =>
   intro an top ro Q ρ U cK ht h
   cases an <;> simp only [mI,bU,bX] at cK
   rename_i live x y
   refine bH.seq ?_
   cases live with
   | none =>
     simp only [oz] at h
     refine (wJ x top ro _ ρ U cK.1 ht h).mono fun e ρ U he=>?_
     cases e <;> first | exact K7 y top ro Q ρ U cK.2 ht he | exact he
   | some live =>
     simp only [oz] at h
     have:=h (Fn.lam live.length fun vs U=>bH C nt ro b Q.q (DY live vs) U) (Fn.Ku fun xs U hl hx=>by
      rw [Fn.qF _ _ _ _ hl] at hx ⊢
      exact K7 y top ro Q _ _ cK.2 ht hx)
     refine (wJ x top ro _ ρ U cK.1 ht this).mono fun e ρ U he=>?_
     cases e with
     | normal =>
       have mH:Fn.app live.length (Fn.lam live.length fun vs U=>bH C nt ro b Q.q (DY live vs) U) (live.map ρ.get) U:=he
       rw [Fn.qF _ _ _ _ (by simp)] at mH
       exact bH.LL mH (EX ρ live)
     | exit i=>exact he
     | ret=>exact he
     | panic x=>exact he
 | cond c a b wJ K7 =>
   intro an top ro Q ρ U cK ht h
   cases an <;> simp only [mI,bU,bX] at cK
   rename_i x y
   simp only [oz] at h
   cases hc:ρ.ev C c <;> rw [hc] at h <;> simp only [aw] at h
   exact bH.cond hc (fun e=>wJ x top ro Q ρ U cK.1 ht (h.1 e)) (fun e=>K7 y top ro Q ρ U cK.2 ht (h.2 e))
 | block i a wJ =>
   intro an top ro Q ρ U cK ht h
   cases an <;> simp only [mI,bU] at cK
   rename_i x
   simp only [oz] at h
   refine bH.block ((wJ x top ro _ ρ U cK ht h).mono fun e ρ U he=>?_)
   cases e with
   | exit k =>
     have mH:Ht (Nat.beq k i) (Q.n ρ U) (Q.e k ρ U):=he
     simp only [y7]
     cases hb:Nat.beq k i with
     | true=>rw [hb] at mH; rw [if_pos (fm hb)]; exact mH
     | false=>rw [hb] at mH; rw [if_neg (fun e=>by subst e; simp at hb)]; exact mH
   | normal=>exact he
   | ret=>exact he
   | panic x=>exact he
 | loop a wJ =>
   intro an top ro Q ρ U cK ht h
   cases an <;> simp only [mI,bU] at cK
   rename_i live x
   simp only [oz] at h
   obtain ⟨I,⟨m,h0⟩,hr⟩:=h
   refine bH.loop (fun m ρ U=>Fn.app live.length (I m) (live.map ρ.get) U) (n:=m) h0 fun m ρ U hI=>?_
   have:=Fn.K9 (hr m) _ _ (by simp) hI
   rw [Fn.qF _ _ _ _ (by simp)] at this
   refine bH.LL ((wJ x top ro _ _ _ cK ht this).mono fun e er ad he=>?_) (EX ρ live)
   cases e with
   | normal =>
     have mH:Fn.app live.length (Fn.lam live.length fun vs U=>∃ m',m' < m/\Fn.app live.length (I m') vs U) (live.map er.get) ad:=he
     rw [Fn.qF _ _ _ _ (by simp)] at mH
     exact mH
   | exit i=>exact he
   | ret=>exact he
   | panic x=>exact he
 | region id ops draw =>
   intro an top ro Q ρ U cK ht h
   have kp:yD Q.q=fun x U=>∀ ρ:Env,Q.p x U:=rfl
   cases draw with
   | false =>
     cases an with
     | rg mu pf dt =>
       cases dt with
       | none =>
         simp only [mI] at cK
         simp only [oz] at h
         refine bH.region mu cK ?_
         have h2:=wS _ ρ U h
         exact vi (fun _ _ h=>h) (fun v U hv ρ=>hv) _ h2
       | some dt=>simp [mI] at cK
     | _=>simp [mI] at cK
   | true =>
     cases an with
     | rg mu pf dt =>
       cases dt with
       | none=>simp [mI] at cK
       | some dt =>
         simp only [mI,bX] at cK
         simp only [oz] at h
         obtain ⟨B,_,hA⟩:=En _ _ _ _ h
         refine bH.tQ mu B dt.steps hm cK.1 (El cK.2) ?_
         exact jW (fun _ _ h=>h) (fun v U hv ρ=>hv) _ hA
     | rb mu dt =>
       simp only [mI,bX] at cK
       simp only [oz] at h
       obtain ⟨B,hB⟩:=h
       refine bH.tQ mu B dt.steps hm cK.1 (El cK.2) ?_
       exact jW (fun _ _ h=>h) (fun v U hv ρ=>hv) _ (qS B _ _ _ hB)
     | rl mu dt =>
       simp only [mI,bX] at cK
       simp only [oz] at h
       obtain ⟨B,_,hA⟩:=Em _ [] _ _ cK.2.2 h
       refine bH.tQ mu B dt.steps hm cK.1 (El cK.2.1) ?_
       exact jW (fun _ _ h=>h) (fun v U hv ρ=>hv) _ hA
     | r2 mu pre i j post =>
       simp only [mI,bX] at cK
       simp only [oz] at h
       obtain ⟨B,hB⟩:=h
       exact bH.Qf (mu:=mu) (B:=B) pre i j post hm cK.1 cK.2 (fun v U hv ρ=>hv) hB
     | _=>simp [mI] at cK
 | rangeFunc f ps a b wJ K7 =>
   intro an top ro Q ρ U cK ht h
   cases an <;> simp only [mI,bU,bX] at cK
   rename_i x y
   obtain ⟨⟨⟨h1,h2⟩,h3⟩,h4⟩:=cK
   have H5:=ht h1
   subst H5
   simp only [oz,rG] at h
   split at h
   . rename_i kM first cap hf
     obtain ⟨uj,h⟩:=h
     refine bH.rangeFunc 0 hf uj fun o ho=>?_
     refine (h o ⟨ρ.get,nt,ps,a,b,.ready,none,0⟩ ho rfl rfl ?_).mono fun r ad hr=>?_
     . intro args aR R L1 hl js fT hB
       obtain ⟨r1,r2,r3,r4,r5,r6,r7,r8⟩:=L1
       simp only [fF.st,fF.mk.injEq,true_and] at fT
       obtain ⟨e1,e2,e3,e4,e5,e6⟩:=fT
       subst e1 e2 e3 e4 e5 e6
       rw [tp.qF _ _ _ _ _ hl] at hB
       refine mU.IL js (by simpa using hl) (fun t ht=>by
        have:=fl.1 h2 t ht
        exact Nat.le_of_ble_eq_true this) ?_
       refine (wJ x false (.round o) _ _ _ h3 (fun h=>by cases h) hB).mono fun e er ad he=>?_
       cases e with
       | normal =>
         obtain ⟨L,k1,k2,k3⟩:=he
         refine ⟨L,k1,k2,(K7 y false (.round o) _ _ _ h4 (fun h=>by cases h) k3).mono fun e rT a7 he=>?_⟩
         cases e with
         | normal=>exact he
         | exit i=>exact he
         | ret=>exact he
         | panic x=>exact he
       | exit i=>exact he
       | ret=>exact he
       | panic x=>exact he
     . cases r with
       | ret v =>
         obtain ⟨L,k1,k2,k3⟩:=hr
         refine ⟨L,k1,k2,?_⟩
         split at k3
         . rename_i hp; rw [hp]; exact k3
         . rename_i hp; rw [hp]; exact k3
         . rename_i hp; rw [hp]; exact k3
         . exact k3.elim
       | panic v=>exact hr
   . exact h.elim
 | scope a wJ=>intro an top ro Q ρ U cK; cases an <;> simp [mI] at cK
 | label l=>intro an top ro Q ρ U cK; cases an <;> simp [mI] at cK
 | goto l=>intro an top ro Q ρ U cK; cases an <;> simp [mI] at cK
 | refuse w=>intro an top ro Q ρ U cK; cases an <;> simp [mI] at cK
def bq (vt:Option (Bool × Nat)) (p:AV) (U:St) (k:AV->Prop):Prop:=match aj vt p U with
 | .val v=>k v
 | @aD.cond q _ (.val v)=>q/\k v
 | _=>False
def Ep (P:Program) (ρ:Env) (U:St):List ResultVar->(List AV->Prop)->Prop
 | [],k=>k []
 | .tmp t::rs,k=>Ep P ρ U rs fun vs=>k (ρ.get t::vs)
 | .cell t ty::rs,k=>bq (oP P ty) (ρ.get t) U fun v=>Ep P ρ U rs fun vs=>k (v::vs)
theorem wU {P:Program} {ρ:Env} {U:St}:∀ (l:List ResultVar) (k:List AV->Prop),Ep P ρ U l k->vS P ρ U l k
 | [],_,h=>h
 | .tmp t::rs,k,h=>wU rs _ h
 | .cell t ty::rs,k,h=>by
   simp only [Ep,bq] at h
   simp only [vS,AE]
   rw [show u7 P ty (ρ.get t) U=aj (oP P ty) (ρ.get t) U from rfl]
   split at h
   . rename_i hl; rw [hl]; exact wU rs _ h
   . rename_i hl; rw [hl]; exact ⟨h.1,wU rs _ h.2⟩
   . exact h.elim
def ak (R:cR->St->Prop) (x:AV) (U:St):Prop:=∃ x' ad,mS x U x' ad/\R (.ret x') ad
def aa (R:cR->St->Prop) (x:AV) (U:St):Prop:=R (.panic x) U
def af1 (P:Program) (fn:Func) (R:cR->St->Prop):Qx where
 n:=fun ρ U=>Ep P ρ U fn.results.toList fun vs=>ak R (vV vs) U
 e:=fun _ _ _=>False
 r:=fun ρ U=>Ep P ρ U fn.results.toList fun vs=>ak R (vV vs) U
 p:=aa R
def LY (C:cQ) (fn:Func) (an:An) (args:List AV) (R:cR->St->Prop) (U:St):Prop:=match fn.body with
 | some c=>oz C c an (af1 C.P fn R) (Env.j0 args) U
 | none=>False
def okF (fn:Func) (an:An) (n:Nat):Bool:=match fn.body with
 | some c=>mI fn.ntmps true c an && Nat.ble n fn.ntmps
 | none=>false
theorem ae.Ym {C:cQ} (hm:C.P.follows .mixedOrders=true) {f:FuncId} {fn:Func} (an:An) {args:List AV} {R:cR->St->Prop} {U:St} (hf:C.P.funcs[f]?=some fn) (cK:okF fn an args.length=true)
 (h:LY C fn an args R U):ae C f args U R:=by
 unfold okF at cK
 unfold LY at h
 split at cK
 . rename_i c hb
   rw [hb] at h
   simp only [bX] at cK
   refine ae.Lq hf hb (Nat.le_of_ble_eq_true cK.2) ?_
   refine (Ah hm c an true .fn _ _ _ cK.1 (fun _=>rfl) h).mono fun e ρ U he=>?_
   cases e with
   | normal=>exact wU _ _ he
   | ret=>exact wU _ _ he
   | panic x=>exact he
   | exit i=>exact he
 . cases cK
theorem ak.mk {R:cR->St->Prop} {x:AV} {U:St} (h:R (.ret x) U):ak R x U:=⟨x,U,mS.refl _ _,h⟩
end Go.Rip
namespace Go.Rip
open Go.RowKit
section
variable {C:cQ} {U:St} {K:AV->St->Prop} {Kp:AV->St->Prop}
@[simp] theorem al (v:AV):(aD.val v).wp C U K Kp=K v U:=rfl
@[simp] theorem mv (v:AV) (b:Nat) (x:Live):(aD.iH v b x).wp C U K Kp=K v (U.set b x):=rfl
@[simp] theorem kO (k:NV) (x:Live):(aD.new k none x).wp C U K Kp=∀ b,U.dD b->K (k.at b) (U.new b x):=rfl
@[simp] theorem agB (k:NV) (d:Nat) (x:Live):(aD.new k (some d) x).wp C U K Kp=∀ b,(U.del d).dD b->K (k.at b) ((U.del d).new b x):=rfl
@[simp] theorem lF (f:FuncId) (args:List AV):(aD.enter f args).wp C U K Kp=ae C f args U (ag K Kp):=rfl
@[simp] theorem yx (f:Nat) (args:List AV):(aD.yield f args).wp C U K Kp=mU C f args U (ag K Kp):=rfl
@[simp] theorem VG (v:AV):(aD.panic v).wp C U K Kp=Kp v U:=rfl
@[simp] theorem wp_cond (p:Prop) [Decidable p] (r:aD):(aD.cond p r).wp C U K Kp=(p/\r.wp C U K Kp):=rfl
@[simp] theorem agD:aD.bad.wp C U K Kp=False:=rfl
@[simp] theorem agE (p:Prop) [Decidable p] (r s:aD):(if p then r else s).wp C U K Kp=if p then r.wp C U K Kp else s.wp C U K Kp:=by split <;> rfl
@[simp] theorem bB (x:AV):ag K Kp (.ret x) U=K x U:=rfl
@[simp] theorem acx (x:AV):ag K Kp (.panic x) U=Kp x U:=rfl
end
@[simp] theorem acy (b:Bool) (A B:Prop):aw (.bool b) A B=((b=true->A)/\(b=false->B)):=rfl
theorem bE (A B:Prop):aw (.bool true) A B=A:=by simp [aw]
theorem bm (A B:Prop):aw (.bool false) A B=B:=by simp [aw]
theorem bY (p:Prop) [Decidable p] (A B:Prop):aw (.bool (decide p)) A B=((p->A)/\(¬ p->B)):=by simp [aw]
@[simp] theorem bf (b w:Bool):aP (.bool b) w=.bool (b == w):=rfl
@[simp] theorem agw (w:Bool):aP (.aH []) w=.bool false:=rfl
@[simp] theorem mj (v:AV):Eu true v=v:=rfl
@[simp] theorem abB (v:AV):Eu false v=.aH []:=rfl
@[simp] theorem aN (C:cQ) (b:Bool) (r:aD) (k:AV->Prop):ao C (.bool b) r k=fg C b r k:=rfl
@[simp] theorem rF (C:cQ) (b:Bool) (v:AV) (k:AV->Prop):fg C b (.val v) k=k (Eu b v):=rfl
@[simp] theorem acA (C:cQ) (b:Bool) (p:Prop) [Decidable p] (r:aD) (k:AV->Prop):fg C b (.cond p r) k=((b=true->p)/\fg C b r k):=rfl
@[simp] theorem abw (C:cQ) (b:Bool) (f:FuncId) (args:List AV) (k:AV->Prop):fg C b (.enter f args) k=∃ v,(b=true->Pure C f args v)/\k (Eu b v):=rfl
@[simp] theorem cF (C:cQ) (k:AV->Prop):∀ r:aD,(fg C false r k)=k (.aH [])
 | .val v=>rfl
 | @aD.cond _ _ r=>by simp only [fg]; rw [cF C k r]; simp
 | .enter _ _=>by simp [fg]
 | .iH _ _ _=>by simp [fg]
 | .new _ _ _=>by simp [fg]
 | .lW _ _=>by simp [fg]
 | .yield _ _=>by simp [fg]
 | .panic _=>by simp [fg]
 | .bad=>by simp [fg]
@[simp] theorem aJ (C:cQ) (v:AV) (k:AV->Prop):aB C (.val v) k=k v:=rfl
@[simp] theorem mE (C:cQ) (p:Prop) [Decidable p] (r:aD) (k:AV->Prop):aB C (.cond p r) k=(p/\aB C r k):=rfl
@[simp] theorem zX (C:cQ) (f:FuncId) (args:List AV) (k:AV->Prop):aB C (.enter f args) k=∃ v,Pure C f args v/\k v:=rfl
theorem vn (C:cQ) (k:AV->Prop):∀ r:aD,fg C true r k=aB C r k
 | .val v=>rfl
 | @aD.cond _ _ r=>by simp only [fg,aB,vn C k r]; simp
 | .enter _ _=>by simp [fg,aB]
 | .iH _ _ _=>by simp [fg,aB]
 | .new _ _ _=>by simp [fg,aB]
 | .lW _ _=>by simp [fg,aB]
 | .yield _ _=>by simp [fg,aB]
 | .panic _=>by simp [fg,aB]
 | .bad=>by simp [fg,aB]
@[simp] theorem cx (C:cQ) (k:AV->Prop) (r:aD):fg C true r k=aB C r k:=vn C k r
theorem Dp (C:cQ) (k:AV->Prop) (r:aD) (p:Prop) [Decidable p]:fg C (decide p) r k=((p->aB C r k)/\(¬ p->k (.aH []))):=by
 by_cases h:p <;> simp [h]
theorem BB (C:cQ) (k:AV->Prop) (r:aD) (p:Prop) [Decidable p]:fg C (!decide p) r k=((p->k (.aH []))/\(¬ p->aB C r k)):=by
 by_cases h:p <;> simp [h]
@[simp] theorem aM (b:Bool) (x y:AV):bQ (.bool b) x y=.val (if b=true then x else y):=rfl
@[simp] theorem ite_bool (b x y:Bool):(if b=true then AV.bool x else AV.bool y)=.bool (if b=true then x else y):=by split <;> rfl
section
variable (bt:BT) (l:Bool) (k:IntKind) (a b:Int) (s t:List UInt8)
@[simp] theorem br:ax .eql bt l (.int k a) (.int k b)=.val (.bool (decide (a=b))):=by simp only [ax,if_true]; rfl
@[simp] theorem dp:ax .neq bt l (.int k a) (.int k b)=.val (.bool (!decide (a=b))):=by simp only [ax,if_true]; rfl
@[simp] theorem cb:ax .lss bt l (.int k a) (.int k b)=.val (.bool (decide (a < b))):=by simp only [ax,if_true]
@[simp] theorem mA:ax .leq bt l (.int k a) (.int k b)=.val (.bool (decide (a <= b))):=by simp only [ax,if_true]
@[simp] theorem eY:ax .gtr bt l (.int k a) (.int k b)=.val (.bool (decide (b < a))):=by simp only [ax,if_true,gt_iff_lt]
@[simp] theorem il:ax .geq bt l (.int k a) (.int k b)=.val (.bool (decide (b <= a))):=by simp only [ax,if_true,ge_iff_le]
@[simp] theorem my:ax .add bt l (.int k a) (.int k b)=jf k (a+b):=by simp only [ax,if_true]
@[simp] theorem kT:ax .sub bt l (.int k a) (.int k b)=jf k (a - b):=by simp only [ax,if_true]
@[simp] theorem JI:ax .mul bt l (.int k a) (.int k b)=jf k (a * b):=by simp only [ax,if_true]
@[simp] theorem acv:ax .quo bt l (.int k a) (.int k b)=.cond (b ≠ 0) (jf k (a.tdiv b)):=by simp only [ax,if_true]
@[simp] theorem acw:ax .rem bt l (.int k a) (.int k b)=.cond (b ≠ 0) (.val (.int k (a.tmod b))):=by simp only [ax,if_true]
@[simp] theorem mz:ax .eql bt l (.str s) (.str t)=.val (.bool (decide (s=t))):=by
 show aD.val (.bool (s == t))=_
 rw [show (s == t)=decide (s=t) from pU.2 (by simp)]
@[simp] theorem vE:ax .neq bt l (.str s) (.str t)=.val (.bool (!decide (s=t))):=by
 show aD.val (.bool (s != t))=_
 rw [show (s != t)=!decide (s=t) from pU.2 (by simp)]
@[simp] theorem acr:ax .add bt l (.str s) (.str t)=.cond (s.length+t.length <= 4294967296) (.val (.str (s++t))):=rfl
@[simp] theorem aat (x y:Bool) (i p:Bool) (f:Option (List FK)) (sl:Bool):ax .eql ⟨true,i,p,f,sl⟩ l (.bool x) (.bool y)=.val (.bool (x == y)):=by simp only [ax,if_true]
@[simp] theorem Hc (x y:Bool) (i p:Bool) (f:Option (List FK)) (sl:Bool):ax .neq ⟨true,i,p,f,sl⟩ l (.bool x) (.bool y)=.val (.bool (x != y)):=by simp only [ax,if_true]
@[simp] theorem acs (x y:List AV) (i p q:Bool) (f:List FK) (sl:Bool):ax .eql ⟨q,i,p,some f,sl⟩ l (.agg x) (.agg y)=vY .bool (pL f x y):=rfl
@[simp] theorem acu (x y:List AV) (i p q:Bool) (f:List FK) (sl:Bool):ax .neq ⟨q,i,p,some f,sl⟩ l (.agg x) (.agg y)=vY (fun r=>.bool (!r)) (pL f x y):=rfl
@[simp] theorem aeN (f:Bool->AV) (r:Bool):vY f (some r)=.val (f r):=rfl
@[simp] theorem ey (x:Bool):kr .not (.bool x)=.val (.bool (!x)):=rfl
@[simp] theorem gL:jf .i64 a=.cond (wa a) (.val (.int .i64 a)):=rfl
@[simp] theorem S9:jf .u8 a=.val (.int .u8 (IntKind.u8.wrap a)):=rfl
end
theorem bI {n:Int} (h1:-9223372036854775808 <= n) (h2:n <= 9223372036854775807):wa n:=⟨h1,h2⟩
section
variable (sz b o:Nat) (p v:AV) (U:St) (L l:List AV)
theorem uv {U:St} {b:Nat} {L:List AV} (h:U.box b=some L) (n o:Nat):aj (some (false,n)) (.box b o) U=iX (L.drop o):=by simp [aj,mW,h]
theorem PD {U:St} {b:Nat} {L:List AV} (h:U.box b=some L) (n o:Nat):aj (some (true,n)) (.box b o) U=.cond (n <= (L.drop o).length) (.val (.agg ((L.drop o).take n))):=by simp [aj,mW,h]
@[simp] theorem u9:aj (some (false,sz)) (.cN L) U=iX L:=rfl
@[simp] theorem M5:aj (some (true,sz)) (.cN L) U=.cond (sz <= L.length) (.val (.agg (L.take sz))):=rfl
@[simp] theorem dF (x:AV):iX (x::L)=.val x:=rfl
theorem nJ {U:St} {b:Nat} {L:List AV} (h:U.box b=some L) (t:Bool) (n o:Nat) (v:AV):aF (some (t,n)) (.box b o) v U=.cond (v.dc=true/\(au v).length=n/\o+n <= L.length) (.iH (.aH []) b (.box (ay L o (au v)))):=by simp [aF,h]
@[simp] theorem bS:aW (.box b o)=.val (.box b o):=rfl
@[simp] theorem yQ:aW (.cN L)=.val (.cN L):=rfl
@[simp] theorem Y0 (f:Nat) (x y:List AV):aW (.func (.func f) x y)=.val (.func (.func f) x y):=rfl
@[simp] theorem aZ (k:Nat):af (some k) (.box b o)=.val (.box b (o+k)):=rfl
@[simp] theorem dJ (k:Nat):af (some k) (.cN L)=.val (.cN (L.drop k)):=rfl
@[simp] theorem Mi (k n:Nat):uV (some (k,false,n)) (.agg L)=iX (L.drop k):=rfl
@[simp] theorem adm (k n:Nat):uV (some (k,true,n)) (.agg L)=.cond (k+n <= L.length) (.val (.agg ((L.drop k).take n))):=rfl
@[simp] theorem yO (e n:Nat) (c:lg) (k:IntKind) (j:Int) (at_:Option (Nat × TypeId × Nat)):aL (some (e,sz)) at_ (.vec n c L) (.int k j)=.cond (0 <= j/\j < n) (.val (.cN (L.drop (j.toNat * sz)))):=rfl
@[simp] theorem abe (e n z t:Nat) (k:IntKind) (j:Int) (at_:Option (Nat × TypeId × Nat)):aL (some (e,sz)) at_ (.ms b o n z t) (.int k j)=.cond (0 <= j/\j < n/\z=sz) (.val (.box b (o+j.toNat * sz))):=rfl
@[simp] theorem Fs (s:List UInt8) (k:IntKind) (j:Int) (at_:Option (Nat × TypeId × Nat)) (vt:Option (Bool × Nat)):iv true at_ vt (.str s) (.int k j)=.cond (0 <= j/\j < s.length) (.val (.int .u8 (s.getD j.toNat 0).toNat)):=by simp [iv]
@[simp] theorem oE (s:List UInt8):cw (some true) (.str s)=.val (.int .i64 s.length):=rfl
@[simp] theorem tX (n:Nat) (c:lg):cw (some false) (.vec n c L)=.val (.int .i64 n):=rfl
@[simp] theorem Iv (n z e:Nat):cw (some false) (.ms b o n z e)=.val (.int .i64 n):=rfl
@[simp] theorem len_nil:cw (some false) .ah=.val (.int .i64 0):=rfl
@[simp] theorem bu (k:Nat):aT (.aH L) k=iX (L.drop k):=rfl
@[simp] theorem ER:au (.agg L)=L:=rfl
@[simp] theorem Oj (k:IntKind) (n:Int):au (.int k n)=[.int k n]:=rfl
@[simp] theorem ET (s:List UInt8):au (.str s)=[.str s]:=rfl
@[simp] theorem adf (x:Bool):au (.bool x)=[.bool x]:=rfl
@[simp] theorem aeH:au (.box b o)=[.box b o]:=rfl
@[simp] theorem aeI (n:Nat) (c:lg):au (.vec n c L)=[.vec n c L]:=rfl
@[simp] theorem aeU (n z e:Nat):au (.ms b o n z e)=[.ms b o n z e]:=rfl
@[simp] theorem XO:au .ah=[.ah]:=rfl
@[simp] theorem aaz:au .aY=[.aY]:=rfl
@[simp] theorem adh (f:Go.Fn) (x y:List AV):au (.func f x y)=[.func f x y]:=rfl
@[simp] theorem adg (x y:List AV):au (.fY x y)=[.fY x y]:=rfl
@[simp] theorem aeT (m:Nat):au (.mp m)=[.mp m]:=rfl
@[simp] theorem Up:(AV.agg L).dc=true:=rfl
@[simp] theorem Uq (k:IntKind) (n:Int):(AV.int k n).dc=true:=rfl
@[simp] theorem Ur (s:List UInt8):(AV.str s).dc=true:=rfl
@[simp] theorem aeK (x:Bool):(AV.bool x).dc=true:=rfl
@[simp] theorem afL:(AV.box b o).dc=true:=rfl
@[simp] theorem afM (n:Nat) (c:lg):(AV.vec n c L).dc=true:=rfl
@[simp] theorem agy (n z e:Nat):(AV.ms b o n z e).dc=true:=rfl
@[simp] theorem YZ:AV.ah.dc=true:=rfl
@[simp] theorem acz:AV.aY.dc=true:=rfl
@[simp] theorem aeM (f:Go.Fn) (x y:List AV):(AV.func f x y).dc=true:=rfl
@[simp] theorem aeL (x y:List AV):(AV.fY x y).dc=true:=rfl
@[simp] theorem agx (m:Nat):(AV.mp m).dc=true:=rfl
@[simp] theorem EO (h:v.dc=true):eS v=.cond True (.cE (au v)):=by simp [eS,h]
@[simp] theorem s8 (s:List UInt8) (sl:Option (TypeId × Nat)) (lo hi:Option AV):fG true sl (.str s) lo hi=(match eh 0 lo,eh s.length hi with
 | some l,some h=>.cond (0 <= l/\l <= h/\h <= s.length) (.val (.str ((s.take h.toNat).drop l.toNat)))
 | _,_=>.bad):=by
 simp only [fG]
 cases eh 0 lo <;> cases eh (s.length:Int) hi <;> rfl
@[simp] theorem nL (d:Int):eh d none=some d:=rfl
@[simp] theorem jX (d:Int) (k:IntKind) (n:Int):eh d (some (.int k n))=some n:=rfl
@[simp] theorem Ac (e n:Nat) (c:lg) (lo hi:Option AV) (st:Bool):fG st (some (e,sz)) (.vec n c L) lo hi=(match eh 0 lo,eh n hi with
 | some a,some b=>.cond (0 <= a/\a <= b/\b <= n) (.val (.vec (b.toNat - a.toNat) (xn c hi) ((L.take (b.toNat * sz)).drop (a.toNat * sz))))
 | _,_=>.bad):=by
 simp only [fG]
 cases eh 0 lo <;> cases eh (n:Int) hi <;> rfl
@[simp] theorem agz (k:IntKind) (a b:Int):B5 (.int k a) (.int k b)=.val (.int k (if b > a then b else a)):=by simp [B5]
@[simp] theorem Yg (k:IntKind) (a b:Int):zG (.int k a) (.int k b)=.val (.int k (if b < a then b else a)):=by simp [zG]
end
theorem ak.eq {R:cR->St->Prop} {x y:AV} {U:St} (h:R (.ret y) U) (e:x=y):ak R x U:=by subst e; exact ak.mk h
theorem Pure.go {C:cQ} {f:FuncId} {args:List AV} {x:AV} {K:AV->St->Prop} {Kp:AV->St->Prop} {U:St} (h:Pure C f args x) (hk:K x U):ae C f args U (ag K Kp):=h U _ hk
end Go.Rip
