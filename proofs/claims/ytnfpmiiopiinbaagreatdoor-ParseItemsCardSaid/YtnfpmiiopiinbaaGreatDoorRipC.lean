/- Lemmas for the proof: no conditions. -/
import Derived.Test.YtnfpmiiopiinbaaGreatDoorRipZz
import Derived.Test.YtnfpmiiopiinbaaGreatDoorRipB
set_option linter.unusedVariables false
set_option linter.unusedSimpArgs false
set_option linter.loopingSimpArgs false
namespace Go.Rip
open Go.RowKit
mutual
def flat:AV->Bool
 | .bool _ | .int _ _ | .str _ | .aV | .aw | .jq | .dj | .cJ=>true
 | .iface _ v=>flat v
 | .agg l=>AP l
 | .aF l=>AP l
 | _=>false
def AP:List AV->Bool
 | []=>true
 | x::xs=>flat x && AP xs
end
mutual
theorem ay.flat {g g':Gh}:∀ (x:AV) (v:Value),flat x=true->ay g x v->ay g' x v
 | .bool _,_,_,hr=>hr
 | .int _ _,_,_,hr=>hr
 | .str _,_,_,hr=>hr
 | .aV,_,_,hr=>hr
 | .aw,_,_,hr=>hr
 | .jq,_,_,hr=>hr
 | .dj,_,_,hr=>hr
 | .cJ,_,_,hr=>hr
 | .iface t x,v,h,hr=>by
   simp only [Rip.flat] at h
   simp only [ay] at hr ⊢
   obtain ⟨u,h1,h2⟩:=hr
   exact ⟨u,h1,ay.flat x u h h2⟩
 | .agg l,v,h,hr=>by
   simp only [Rip.flat] at h
   simp only [ay] at hr ⊢
   obtain ⟨vs,h1,h2,h3⟩:=hr
   exact ⟨vs,h1,h2,az.flat l _ h h3⟩
 | .aF l,v,h,hr=>by
   simp only [Rip.flat] at h
   simp only [ay] at hr ⊢
   obtain ⟨vs,h1,h3⟩:=hr
   exact ⟨vs,h1,az.flat l _ h h3⟩
theorem az.flat {g g':Gh}:∀ (l:List AV) (vs:List Value),AP l=true->az g l vs->az g' l vs
 | [],vs,_,h=>by cases vs <;> simp_all [az]
 | x::xs,vs,h,hr=>by
   simp only [AP,bL] at h
   simp only [az] at hr ⊢
   obtain ⟨v,vs',h1,h2,h3⟩:=hr
   exact ⟨v,vs',h1,ay.flat x v h.1 h2,az.flat xs vs' h.2 h3⟩
end
theorem ae.Vm {C:cq} {f:Nat} {args args0:List AV} {U:St} {R:cA->St->Prop} {x:AV} (d:Nat) (A6:∀ i,closed (C.xy i)=true)
 (hw:∀ g vs,az g (args.map (resolve d U)) vs->az g args0 vs) (hargs:bY args0=true) (hx:flat x=true) (h:Pure C f args0 x) (hR:R (.ret x) U):ae C f args U R:=by
 intro g w vs hs hG ha
 have Iy:=hs.Bl
 let g0:Gh:={ base:=w.heap.size,w0:=w,place:=fun _=>none,bS:=(g.all w).bS,bI:=(g.all w).bI,res:=fun _=>false }
 have xK:a8 g0 (bC ⟨.e,0⟩) w:={
  below:=Below.refl _ _
  le:=dk _
  bS:=fun q o u hu=>vj hs q o u hu
  bI:=fun q es c hu=>tL hs q es c hu
  live:=fun b x hb=>by cases hb
  apart:=fun b b' x x' p p' hb=>by cases hb
  res:=fun r hr=>by cases hr
  fin:=⟨0,fun n hn=>by cases hn; rfl,fun _ _=>rfl⟩ }
 have Mb:gD C g0:=⟨fun i=>ay.closed (g:=g) (g':=g0) (fun _ _ _ h=>Iy.bS _ _ _ h) (fun _ _ h=>Iy.bI _ _ h) _ _ (A6 i) (hG.1 i),fun i cs hi=>by
  obtain ⟨k1,t,fr,k2⟩:=hG.2 i cs hi
  refine ⟨Nat.lt_of_lt_of_le k1 hs.le,t,fr,?_⟩
  show w.heap[i]?=_
  rw [hs.below.block i k1]; exact k2⟩
 have Fx:az g0 args0 vs:=az.closed (g:=g.all w) (g':=g0) (fun _ _ _ h=>h) (fun _ _ h=>h) _ _ hargs (hw _ _ (Ai (fun x v _ hr=>zG hs d x v hr) ha))
 refine (h (bC ⟨.e,0⟩) (fun r _=>r=.ret x) rfl g0 w vs xK Mb Fx).mono ?_
 rintro e w' hp
 cases e with
 | panicked ch=>obtain ⟨g',ad,y,v,_,_,_,_,hz⟩:=hp; cases hz
 | outgrown=>exact hp.elim
 | returned v =>
   obtain ⟨g',ad,y,h1,h2,h3,hz⟩:=hp
   cases hz
   have sf:=h2.Bl
   have hle:=h1.trans sf
   have vy:Below w.heap.size w w':=by
    have:=h2.below
    rw [h1.base,h1.w0] at this
    exact this
   let gF:Gh:={ base:=g.base,w0:=g.w0,place:=g.place,bS:=g.bS,bI:=g.bI,res:=g.res }
   have FJ:Gh.Le g gF:=⟨rfl,rfl,fun _ _ h=>h,fun b o u hu=>hu,fun b u hu=>hu,fun _ h=>h,fun _ _ _=>rfl,fun _ _=>rfl⟩
   refine ⟨gF,U,x,FJ,?_,ay.flat x v hx h3,hR⟩
   exact {
    below:=hs.below.trans (vy.mono hs.le)
    le:=Nat.le_trans hs.le vy.size
    bS:=fun q o u hu=>vj h2 q o u (hle.bS _ _ _ (Iy.bS _ _ _ hu))
    bI:=fun q es c hu=>tL h2 q es c (hle.bI _ _ (Iy.bI _ _ hu))
    live:=fun b l hb=>by
     obtain ⟨p,k1,k2,k3⟩:=hs.live b l hb
     have aO:=k3.lt
     exact ⟨p,k1,k2,k3.frame FJ.r (vy.block _ aO) (fun o=>rfl) rfl⟩
    apart:=hs.apart
    res:=fun r hr=>by
     obtain ⟨k1,k2⟩:=hs.res r hr
     exact ⟨k1,by rw [vy.block _ (jR.1 k2).1]; exact k2⟩
    fin:=hs.fin }
inductive Wk:List AV->List AV->Prop
 | nil:Wk [] []
 | aS (x:AV) {l l':List AV}:Wk l l'->Wk (x::l) (x::l')
 | drop (x:AV) {l l':List AV}:Wk l l'->Wk (.any::l) (x::l')
theorem Wk.rep {g:Gh} {l l':List AV} (h:Wk l l'):∀ {vs:List Value},az g l' vs->az g l vs:=by
 induction h with
 | nil=>exact fun h=>h
 | aS x _ ih =>
   intro vs h
   simp only [az] at h ⊢
   obtain ⟨u,us,h1,h2,h3⟩:=h
   exact ⟨u,us,h1,h2,ih h3⟩
 | drop x _ ih =>
   intro vs h
   simp only [az] at h ⊢
   obtain ⟨u,us,h1,h2,h3⟩:=h
   exact ⟨u,us,h1,by simp only [ay],ih h3⟩
theorem Wk.cn {g:Gh} {l l' r:List AV} {vs:List Value} (h:Wk l l') (hr:az g (.cn l'::r) vs):az g (.cn l::r) vs:=by
 simp only [az,ay] at hr ⊢
 obtain ⟨u,us,h1,⟨aE,off,ws,h2,h3,h4⟩,h5⟩:=hr
 exact ⟨u,us,h1,⟨aE,off,ws,h2,h3,h.rep h4⟩,h5⟩
theorem Wk.any:∀ (l:List AV),Wk (l.map fun _=>.any) l
 | []=>.nil
 | x::l=>.drop x (Wk.any l)
end Go.Rip
namespace Go.Rip
open Go.RowKit
def ah (vt:Option (Bool × Nat)) (p:AV) (U:St):aD :=
 match vt,kX U p with
 | some (true,sz),some l=>.cond (sz <= l.length) (.val (.agg (l.take sz)))
 | some (false,_),some l=>gJ l
 | _,_=>.bad
def aJ (vt:Option (Bool × Nat)) (p v:AV) (U:St):aD :=
 match vt,p with
 | some (_,sz),.box b off=>match U.box b with
   | some l=>.cond (v.cQ=true/\(au v).length=sz/\off+sz <= l.length) (.gx (.aF []) b (.box (aB l off (au v))))
   | none=>.bad
 | _,_=>.bad
def VP (t:TypeId) (z:Option (List AV)):aD :=
 match z with
 | some l=>EW t l
 | none=>.bad
def eh (st:Option (List (Nat × Nat))) (z:Option (List AV)) (at_:Option (Nat × TypeId × Nat)) (parts:List (Nat × AV)):aD :=
 match st,z with
 | some pl,some z=>fm (fun i=>pl[i]?) parts z fun z=>.val (.agg z)
 | none,some z=>match at_ with
   | some (_,_,sz)=>fm (fun i=>some (i * sz,sz)) parts z fun z=>.val (.agg z)
   | none=>.bad
 | _,_=>.bad
def aq (sl:Option (TypeId × Nat)) (z:Option (List AV)) (n:Nat) (mu:Bool) (parts:List (Nat × AV)):aD :=
 match sl with
 | some (e,sz)=>match z with
   | some z=>.cond (n * sz <= 16777216) (fm (fun i=>some (i * sz,sz)) parts (bF n z) fun cs=>.cond (cs.length=n * sz) (if mu then .nF n sz e none cs else .val (.vec n .full cs)))
   | none=>.bad
 | none=>.bad
def dp (mt:Option (FK × TypeId)) (m k v:AV) (U:St):aD :=
 match mt,m with
 | some (fk,_),.mp id=>match U.mp id with
   | some (ks,vs)=>match kj fk k ks 0,oG fk k with
     | some none,true=>.gx (.aF []) id (.mp (fR k v ks vs).1 (fR k v ks vs).2)
     | some (some i),true=>.gx (.aF []) id (.mp ks (vs.set i v))
     | _,_=>.bad
   | none=>.bad
 | _,_=>.bad
def dz (mt:Option (FK × TypeId)) (z:Option AV) (m k:AV) (ok:Bool) (U:St):aD :=
 match mt,jb U m with
 | some (fk,e),some (ks,vs)=>match z,oG fk k with
   | some z,true=>lI fk k z ok ks vs
   | _,_=>.bad
 | _,_=>.bad
def Eo (it:Option IntKind) (is:Bool) (ss bs:Bool) (x:AV):aD :=
 match it,is,x with
 | some .i64,true,.int _ n=>.cond (uo n) (.val (.int .i64 n))
 | some k,true,.int _ n=>.val (.int k (k.wrap n))
 | none,true,.str s=>if ss=true then .val (.str s) else
   if bs=true then .cond (s.length <= 4294967296) (.val (.vec s.length .jD (s.map fun b=>.int .u8 b.toNat))) else .bad
 | _,_,_=>.bad
def eI (st:Bool) (sl:Option (TypeId × Nat)) (x:AV) (lo hi:Option AV):aD :=
 match x with
 | .str s=>match st,dt 0 lo,dt s.length hi with
   | true,some l,some h=>.cond (0 <= l/\l <= h/\h <= s.length) (.val (.str ((s.take h.toNat).drop l.toNat)))
   | _,_,_=>.bad
 | .vec n cap l=>match sl,dt 0 lo,dt n hi with
   | some (_,sz),some a,some b=>.cond (0 <= a/\a <= b/\b <= n) (.val (.vec (b.toNat - a.toNat) (vp cap hi) ((l.take (b.toNat * sz)).drop (a.toNat * sz))))
   | _,_,_=>.bad
 | .aw=>match sl,dt 0 lo,dt 0 hi with
   | some (_,_),some a,some b=>.cond (a=0/\b=0) (.val .aw)
   | _,_,_=>.bad
 | .ms b off n ir e=>match sl,dt 0 lo,dt n hi with
   | some (_,sz),some a,some h=>.cond (0 <= a/\a <= h/\h <= n/\(a < n\/a=0)/\ir=sz) (.val (.ms b (off+a.toNat * sz) (h.toNat - a.toNat) ir e))
   | _,_,_=>.bad
 | _=>.bad
def af (ft:Option Nat) (p:AV):aD :=
 match ft,p with
 | some o,.box b off=>.val (.box b (off+o))
 | some o,.cn l=>.val (.cn (l.drop o))
 | _,_=>.bad
def sS (fv:Option (Nat × Bool × Nat)) (x:AV):aD :=
 match fv,x with
 | some (o,true,n),.agg l=>.cond (o+n <= l.length) (.val (.agg ((l.drop o).take n)))
 | some (o,false,_),.agg l=>gJ (l.drop o)
 | _,_=>.bad
def W9 (at_:Option (Nat × TypeId × Nat)) (x i:AV):aD :=
 match at_,x,i with
 | some (n,_,sz),.cn l,.int _ j=>.cond (0 <= j/\j < n) (.val (.cn (l.drop (j.toNat * sz))))
 | some (n,_,sz),.box b off,.int _ j=>.cond (0 <= j/\j < n) (.val (.box b (off+j.toNat * sz)))
 | _,_,_=>.bad
def aG (sl:Option (TypeId × Nat)) (at_:Option (Nat × TypeId × Nat)) (x i:AV):aD :=
 match sl,x,i with
 | none,x,i=>W9 at_ x i
 | some (_,sz),.vec n _ l,.int _ j=>.cond (0 <= j/\j < n) (.val (.cn (l.drop (j.toNat * sz))))
 | some (_,sz),.ms b off n ir _,.int _ j=>.cond (0 <= j/\j < n/\ir=sz) (.val (.box b (off+j.toNat * sz)))
 | _,_,_=>.bad
def gj (st:Bool) (at_:Option (Nat × TypeId × Nat)) (vt:Option (Bool × Nat)) (x i:AV):aD :=
 match x,i with
 | .str s,.int _ j=>if st=true then .cond (0 <= j/\j < s.length) (.val (.int .u8 (s.getD j.toNat 0).toNat)) else .bad
 | .agg l,.int _ j=>match at_ with
   | some (n,e,sz)=>match vt with
     | some (false,_)=>.cond (0 <= j/\j < n) (gJ (l.drop (j.toNat * sz)))
     | some (true,k)=>.cond (0 <= j/\j < n/\k=sz/\j.toNat * sz+sz <= l.length) (.val (.agg ((l.drop (j.toNat * sz)).take sz)))
     | none=>.bad
   | none=>.bad
 | _,_=>.bad
def vN (b:Bool) (t:TypeId) (x:AV):aD:=if b=true then .val (.iface t x) else .bad
def sF (mt:Option (FK × TypeId)) (m:AV):aD :=
 match mt,m with
 | some _,.eZ ks vs=>.new .it none (.iter (ks.zip vs) none)
 | _,_=>.bad
def ui (z:Option AV) (x:AV) (t:TypeId) (ok:Bool):aD :=
 match z,x with
 | some z,.iface u v=>if u=t then .val (if ok then .aF [v,.bool true] else v) else if ok then .val (.aF [z,.bool false]) else .bad
 | some z,.cJ=>if ok then .val (.aF [z,.bool false]) else .bad
 | _,_=>.bad
def Bq (sl:Option (TypeId × Nat)) (z:Option (List AV)) (mu:Bool) (l c:AV):aD :=
 match sl,l,c with
 | some (e,sz),.int _ l,.int _ c=>match z with
   | some z=>.cond (0 <= l/\l=c/\c <= 65536) (if mu then .nF l.toNat sz e none (bF l.toNat z) else .l8 l.toNat (bF l.toNat z) none ⟨l.toNat,e,sz⟩)
   | none=>.bad
 | _,_,_=>.bad
def AI (sl:Option (TypeId × Nat)) (z:Option (List AV)) (x:AV) (U:St):aD :=
 match sl,x with
 | some (e,sz),.ms b off n ir _=>match U.box b,z with
   | some l,some z=>.cond (ir=sz/\off+n * sz <= l.length) (.gx (.aF []) b (.box (aB l off (bF n z))))
   | _,_=>.bad
 | _,_=>.bad
def cj (lt:Option Bool) (x:AV):aD :=
 match lt,x with
 | some true,.str s=>.val (.int .i64 s.length)
 | some false,.vec n _ _=>.val (.int .i64 n)
 | some false,.ms _ _ n _ _=>.val (.int .i64 n)
 | some false,.aw=>.val (.int .i64 0)
 | _,_=>.bad
def ez (ap:Option (TypeId × Nat)) (mu:Bool) (s y:AV) (U:St):aD :=
 match ap,pO U y with
 | some (e,sz),some (m,l2) =>
   .cond (l2.length=m * sz) (match s with
   | .aw=>if m=0 then .val .aw else .cond (m <= 4294967296) (if mu then .nF m sz e none l2 else .l8 m l2 none ⟨m,e,sz⟩)
   | .vec n .full l=>if m=0 then .val s else .cond (l.length=n * sz/\n+m <= 4294967296) (.l8 (n+m) (l++l2) none ⟨n+m,e,sz⟩)
   | .vec n (.own τ) l=>.cond (U.tok τ=some ⟨n,e,sz⟩/\l.length=n * sz/\n+m <= 4294967296) (.l8 (n+m) (l++l2) (some τ) ⟨n+m,e,sz⟩)
   | .ms b off n ir e'=>match U.box b with
     | some l=>.cond (off=0/\ir=sz/\e'=e/\n * sz <= l.length/\n+m <= 4294967296) (.nF (n+m) sz e (some b) (l.take (n * sz)++l2))
     | none=>.bad
   | _=>.bad)
 | _,_=>.bad
structure BT where
 b:Bool
 i:Bool
 p:Bool
 f:Option (List FK)
 s:Bool
def Xh (P:Program) (t:TypeId):BT:=⟨uU P t,jP P t,lh P t,JI P t,oO P t⟩
def eqR (f:Option (List FK)) (a b:List AV):Option Bool :=
 match f with
 | some ks=>od ks a b
 | none=>none
def ar (op:BinOp) (bt:BT) (lit:Bool) (x y:AV):aD :=
 match op,x,y with
 | .eql,.cJ,.cJ=>if bt.i=true/\lit=true then .val (.bool true) else .bad
 | .neq,.cJ,.cJ=>if bt.i=true/\lit=true then .val (.bool false) else .bad
 | .add,.int k a,.int k' b=>if k=k' then gP k (a+b) else .bad
 | .sub,.int k a,.int k' b=>if k=k' then gP k (a - b) else .bad
 | .mul,.int k a,.int k' b=>if k=k' then gP k (a * b) else .bad
 | .quo,.int k a,.int k' b=>if k=k' then .cond (b ≠ 0) (gP k (a.tdiv b)) else .bad
 | .rem,.int k a,.int k' b=>if k=k' then .cond (b ≠ 0) (.val (.int k (a.tmod b))) else .bad
 | .and,.int k a,.int k' b=>if k=k' then .val (.int k (k.wrap (BitVec.ofInt k.bits a &&& BitVec.ofInt k.bits b).toNat)) else .bad
 | .or,.int k a,.int k' b=>if k=k' then .val (.int k (k.wrap (BitVec.ofInt k.bits a ||| BitVec.ofInt k.bits b).toNat)) else .bad
 | .eql,.int k a,.int k' b=>if k=k' then .val (.bool (a == b)) else .bad
 | .neq,.int k a,.int k' b=>if k=k' then .val (.bool (a != b)) else .bad
 | .lss,.int k a,.int k' b=>if k=k' then .val (.bool (decide (a < b))) else .bad
 | .leq,.int k a,.int k' b=>if k=k' then .val (.bool (decide (a <= b))) else .bad
 | .gtr,.int k a,.int k' b=>if k=k' then .val (.bool (decide (a > b))) else .bad
 | .geq,.int k a,.int k' b=>if k=k' then .val (.bool (decide (a >= b))) else .bad
 | .eql,.str a,.str b=>.val (.bool (a == b))
 | .neq,.str a,.str b=>.val (.bool (a != b))
 | .add,.str a,.str b=>.cond (a.length+b.length <= 4294967296) (.val (.str (a++b)))
 | .eql,.bool a,.bool b=>if bt.b=true then .val (.bool (a == b)) else .bad
 | .neq,.bool a,.bool b=>if bt.b=true then .val (.bool (a != b)) else .bad
 | .eql,.agg a,.agg b=>wq .bool (eqR bt.f a b)
 | .neq,.agg a,.agg b=>wq (fun r=>.bool (!r)) (eqR bt.f a b)
 | .eql,.iface _ _,.cJ=>if bt.i=true then .val (.bool false) else .bad
 | .neq,.iface _ _,.cJ=>if bt.i=true then .val (.bool true) else .bad
 | .eql,.aV,.aV=>if bt.p=true then .val (.bool true) else .bad
 | .eql,.box _ _,.aV=>if bt.p=true then .val (.bool false) else .bad
 | .neq,.aV,.aV=>if bt.p=true then .val (.bool false) else .bad
 | .neq,.box _ _,.aV=>if bt.p=true then .val (.bool true) else .bad
 | .eql,.cn _,.aV=>if bt.p=true then .val (.bool false) else .bad
 | .neq,.cn _,.aV=>if bt.p=true then .val (.bool true) else .bad
 | .eql,.aw,.aw=>if bt.s=true then .val (.bool true) else .bad
 | .eql,.vec _ _ _,.aw=>if bt.s=true then .val (.bool false) else .bad
 | .eql,.ms _ _ _ _ _,.aw=>if bt.s=true then .val (.bool false) else .bad
 | _,_,_=>.bad
theorem Ut (P:Program) (op:BinOp) (t:TypeId) (lit:Bool) (x y:AV):ar op (Xh P t) lit x y=EZ P op t lit x y:=by
 unfold ar EZ Jq
 cases op <;> cases x <;> cases y <;> rfl
def vg (P:Program) (t:TypeId):Option (List AV):=match eJ P t with
 | some (e,_)=>oL P e
 | none=>none
def SA (P:Program) (t:TypeId):Option (Bool × Nat):=match tM P t with
 | some (_,e,_)=>mF P e
 | none=>none
def Qc (P:Program) (t:TypeId):Option AV:=match pF P t with
 | some (_,e)=>zeroV P e
 | none=>none
def Qh (gt:Option (TypeId × Nat × List AV)) (ap:Option (TypeId × Nat)) (mu:Bool) (s y:AV) (U:St):aD :=
 match gt with
 | some q=>Ep q mu s y
 | none=>ez ap mu s y U
def Ju (C:cq) (mu:Bool) (c:Call) (ρ:Env) (U:St):aD :=
 match c.callee,c.argTypes.toList,c.args.toList with
 | .value (.func f),_,args=>if dU C.P f=true then .enter f (args.map (ρ.ev C)) else .bad
 | .value f,_,args=>gr C.P (ρ.ev C f) (args.map (ρ.ev C))
 | .builtin .len,[t],[x]=>cj (Kl C.P t) (ρ.ev C x)
 | .builtin .append,[t,u],[s,y]=>Qh (AR C.P t u) (Jo C.P t u) mu (ρ.ev C s) (ρ.ev C y) U
 | .builtin .cap,[t],[x]=>Fc (eJ C.P t) (ρ.ev C x)
 | .builtin .min,_,[x,y]=>xV (ρ.ev C x) (ρ.ev C y)
 | .builtin .max,_,[x,y]=>z7 (ρ.ev C x) (ρ.ev C y)
 | .builtin .clear,[t],[x]=>AI (eJ C.P t) (vg C.P t) (ρ.ev C x) U
 | _,_,_=>.bad
def re (C:cq) (mu:Bool) (o:Op) (ρ:Env) (U:St):aD :=
 match o with
 | .move x | .assign x=>.val (ρ.ev C x)
 | .pick c a b=>bp (ρ.ev C c) (ρ.ev C a) (ρ.ev C b)
 | .alloc t=>VP t (oL C.P t)
 | .box _ x=>dT (ρ.ev C x)
 | .build t parts=>eh (yU C.P t) (oL C.P t) (tM C.P t) (kZ C ρ parts)
 | .buildSlice t n parts=>aq (eJ C.P t) (vg C.P t) n mu (kZ C ρ parts)
 | .insert t m k v | .mapUpdate t m k v=>dp (pF C.P t) (ρ.ev C m) (ρ.ev C k) (ρ.ev C v) U
 | .load t a=>ah (mF C.P t) (ρ.ev C a) U
 | .store t a v=>aJ (mF C.P t) (ρ.ev C a) (ρ.ev C v) U
 | .nilCheck x=>aY (ρ.ev C x)
 | .binOp op t x y _=>ar op (Xh C.P t) (isLit x || isLit y) (ρ.ev C x) (ρ.ev C y)
 | .unOp op _ x=>jC op (ρ.ev C x)
 | .convert s d x=>Eo (J8 C.P d) (C.P.underlying s).isSome (lY C.P d && lY C.P s) (vI C.P d && lY C.P s) (ρ.ev C x)
 | .makeInterface t x=>vN (xY C.P t) t (ρ.ev C x)
 | .makeFunc fn first cap=>.val (.func fn (first.toList.map (ρ.ev C)) (cap.toList.map (ρ.ev C)))
 | .makeMap _ none=>.tj
 | .slice t x lo hi none=>eI (lY C.P t) (eJ C.P t) (ρ.ev C x) (lo.map (ρ.ev C)) (hi.map (ρ.ev C))
 | .fieldAddr s x f=>af (xu C.P s f) (ρ.ev C x)
 | .field s x f=>sS (yG C.P s f) (ρ.ev C x)
 | .indexAddr t x i=>aG (eJ C.P t) (tM C.P t) (ρ.ev C x) (ρ.ev C i)
 | .index t x i=>gj (lY C.P t) (tM C.P t) (SA C.P t) (ρ.ev C x) (ρ.ev C i)
 | .lookup t m k ok=>dz (pF C.P t) (Qc C.P t) (ρ.ev C m) (ρ.ev C k) ok U
 | .extract t i=>aR (ρ.ev C t) i
 | .panic x=>sA (ρ.ev C x)
 | .range t m=>sF (pF C.P t) (ρ.ev C m)
 | .typeAssert x _ t ok=>ui (yC C.P t) (ρ.ev C x) t ok
 | .makeSlice t l c=>Bq (eJ C.P t) (vg C.P t) mu (ρ.ev C l) (ρ.ev C c)
 | .next i false=>qu (ρ.ev C i) U
 | .entry i=>kY (ρ.ev C i) U
 | .call c=>Ju C mu c ρ U
 | _=>.bad
theorem Ql (C:cq) (mu:Bool) (c:Call) (ρ:Env) (U:St):Ju C mu c ρ U=yD C mu c ρ U:=by
 unfold Ju yD
 obtain ⟨callee,⟨args⟩,⟨Ud⟩⟩:=c
 cases callee with
 | value f =>
   cases f <;> simp only [gr,Env.ev,kK,ia]
 | invoke r m=>rfl
 | builtin b =>
   cases b
   case clear =>
    dsimp only
    rcases Ud with _ | ⟨t,_ | ⟨u,_ | _⟩⟩ <;> rcases args with _ | ⟨x,_ | ⟨y,_ | _⟩⟩ <;> try rfl
    simp only [AI,xl,vg]
    generalize ρ.ev C x=y
    cases h:eJ C.P t with
    | none=>rfl
    | some es=>(cases es; cases y <;> rfl)
   all_goals first | rfl | (dsimp only; rcases Ud with _ | ⟨t,_ | ⟨u,_ | _⟩⟩ <;> rcases args with _ | ⟨x,_ | ⟨y,_ | _⟩⟩ <;> rfl)
theorem ow (C:cq) (mu:Bool) (o:Op) (ρ:Env) (U:St):re C mu o ρ U=iK C mu o ρ U:=by
 cases o with
 | binOp op t x y yt=>exact Ut _ _ _ _ _ _
 | call c=>exact Ql _ _ _ _ _
 | buildSlice t n parts =>
   simp only [re,iK,aq,qo,vg]
   cases h:eJ C.P t with
   | none=>rfl
   | some es=>(cases es; rfl)
 | index t x i =>
   simp only [re,iK,gj,Be,SA]
   generalize ρ.ev C x=y
   generalize ρ.ev C i=z
   cases h:tM C.P t with
   | none=>cases y <;> rfl
   | some es=>(cases es; cases y <;> cases z <;> rfl)
 | lookup t m k ok =>
   simp only [re,iK,dz,uW,Qc]
   generalize jb U (ρ.ev C m)=y
   cases h:pF C.P t with
   | none=>rfl
   | some es=>(cases es; cases y <;> rfl)
 | makeSlice t l c =>
   simp only [re,iK,Bq,rC,vg]
   generalize ρ.ev C l=y
   generalize ρ.ev C c=z
   cases h:eJ C.P t with
   | none=>rfl
   | some es=>(cases es; cases y <;> cases z <;> rfl)
 | convert s d x =>
   simp only [re,iK,Eo,En,bL]
   rfl
 | makeMap t r=>cases r <;> rfl
 | slice t x lo hi m=>cases m <;> rfl
 | next i b=>cases b <;> rfl
 | _=>rfl
end Go.Rip
namespace Go.Rip
open Go.RowKit
def Fn:Nat->Type
 | 0=>St->Prop
 | n+1=>AV->Fn n
namespace Fn
def app:(n:Nat)->Fn n->List AV->St->Prop
 | 0,f,_,U=>f U
 | n+1,f,x::xs,U=>app n (f x) xs U
 | n+1,f,[],U=>app n (f .any) [] U
def lam:(n:Nat)->(List AV->St->Prop)->Fn n
 | 0,F=>fun U=>F [] U
 | n+1,F=>fun x=>lam n (fun xs U=>F (x::xs) U)
theorem oT:∀ (n:Nat) (F:List AV->St->Prop) (xs:List AV) (U:St),xs.length=n->app n (lam n F) xs U=F xs U
 | 0,F,[],U,_=>rfl
 | n+1,F,x::xs,U,h=>oT n (fun xs U=>F (x::xs) U) xs U (by simpa using h)
 | 0,F,_::_,U,h=>by simp at h
 | n+1,F,[],U,h=>by simp at h
def imp:(n:Nat)->Fn n->Fn n->Prop
 | 0,f,g=>∀ U,f U->g U
 | n+1,f,g=>∀ x,imp n (f x) (g x)
theorem IJ:∀ {n:Nat} {f g:Fn n},imp n f g->∀ (xs:List AV) (U:St),xs.length=n->app n f xs U->app n g xs U
 | 0,f,g,h,xs,U,_,hf=>h U hf
 | n+1,f,g,h,x::xs,U,hl,hf=>IJ (h x) xs U (by simpa using hl) hf
 | n+1,f,g,h,[],U,hl,hf=>by simp at hl
theorem Ie:∀ {n:Nat} {f g:Fn n},(∀ (xs:List AV) (U:St),xs.length=n->app n f xs U->app n g xs U)->imp n f g
 | 0,f,g,h=>fun U hf=>h [] U rfl hf
 | n+1,f,g,h=>fun x=>Ie fun xs U hl hf=>h (x::xs) U (by simpa using hl) hf
end Fn
def Bn:List Nat->List AV->Nat->AV
 | s::ss,x::xs,t=>cond (Nat.beq t s) x (Bn ss xs t)
 | _,_,_=>.any
def Cf (live:List Nat) (vs:List AV):Env:=⟨Bn live vs⟩
theorem DI (f:Nat->AV) (t:Nat):∀ live:List Nat,Bn live (live.map f) t=f t\/Bn live (live.map f) t=.any
 | []=>.inr rfl
 | s::ss=>by
   simp only [dV,Bn]
   cases h:Nat.beq t s with
   | true=>have:=ey h; subst this; exact .inl rfl
   | false=>exact DI f t ss
theorem C7 (ρ:Env) (live:List Nat) (t:Nat):(Cf live (live.map ρ.get)).get t=ρ.get t\/(Cf live (live.map ρ.get)).get t=.any:=DI ρ.get t live
section
variable {C:cq} {nt:Nat} {ro:Ro} {U:St} {ρ:Env}
theorem bo.Ji {c:Code} {Q:Ex->Env->St->Prop} {dx:Env} (h:bo C nt ro c Q dx U) (hw:∀ t,dx.get t=ρ.get t\/dx.get t=.any):bo C nt ro c Q ρ U :=
 fun g w a fr h1 h2 h3 h4 h5=>h g w a fr h1 h2 (fun t=>by
  rcases hw t with e | e
  . rw [e]; exact h3 t
  . rw [e]; simp only [ay]) h4 h5
end
structure Qx where
 n:Env->St->Prop
 e:Nat->Env->St->Prop
 r:Env->St->Prop
 p:AV->St->Prop
def Qx.q (Q:Qx):Ex->Env->St->Prop
 | .normal,ρ,U=>Q.n ρ U
 | .exit i,ρ,U=>Q.e i ρ U
 | .ret,ρ,U=>Q.r ρ U
 | .panic x,_,U=>Q.p x U
def aa8 (ops:Array Oper) (j:Nat):Option Nat:=(ops[j]?).bind (·.dst)
def aH (v:AV) (want:Bool):AV:=match v with
 | .bool b=>.bool (b == want)
 | .aF []=>.bool false
 | _=>.any
def Fu (ops:Array Oper) (ρ:Env) (jw:Nat × Bool):AV:=match aa8 ops jw.1 with
 | some d=>aH (ρ.get d) jw.2
 | none=>.any
theorem Fv (ops:Array Oper) (ρ:Env) (jw:Nat × Bool):gq ops ρ (some jw)=Fu ops ρ jw:=rfl
def CJ (b:Bool) (v:AV):AV:=match b with
 | true=>v
 | false=>.aF []
def ej (C:cq) (b:Bool):aD->(AV->Prop)->Prop
 | .val v,k=>k (CJ b v)
 | @aD.cond p _ r,k=>(b=true->p)/\ej C b r k
 | .enter f args,k=>∃ v,(b=true->Pure C f args v)/\k (CJ b v)
 | _,k=>b=false/\k (.aF [])
def ai (C:cq) (gv:AV) (r:aD) (k:AV->Prop):Prop:=match gv with
 | .bool b=>ej C b r k
 | _=>False
theorem zE {C:cq}:∀ (r:aD) {k:AV->Prop},ej C true r k->∃ v,r.yv C v/\k v
 | .val v,k,h=>⟨v,rfl,h⟩
 | @aD.cond _ _ r,k,h=>let ⟨v,h1,h2⟩:=zE r h.2; ⟨v,⟨h.1 rfl,h1⟩,h2⟩
 | .enter _ _,k,h=>let ⟨v,h1,h2⟩:=h; ⟨v,h1 rfl,h2⟩
 | .gx _ _ _,_,h=>by cases h.1
 | .new _ _ _,_,h=>by cases h.1
 | .ki _ _,_,h=>by cases h.1
 | .yield _ _,_,h=>by cases h.1
 | .panic _,_,h=>by cases h.1
 | .bad,_,h=>by cases h.1
theorem yb {C:cq}:∀ (r:aD) {k:AV->Prop},ej C false r k->k (.aF [])
 | .val v,k,h=>h
 | @aD.cond _ _ r,k,h=>yb r h.2
 | .enter _ _,k,h=>let ⟨v,h1,h2⟩:=h; h2
 | .gx _ _ _,_,h=>h.2
 | .new _ _ _,_,h=>h.2
 | .ki _ _,_,h=>h.2
 | .yield _ _,_,h=>h.2
 | .panic _,_,h=>h.2
 | .bad,_,h=>h.2
theorem yc {C:cq} {gv:AV} {r:aD} {k:AV->Prop} (h:ai C gv r k):(gv=.bool true/\∃ v,r.yv C v/\k v)\/(gv=.bool false/\k (.aF [])):=by
 cases gv <;> simp only [ai] at h
 rename_i b
 cases b
 . exact .inr ⟨rfl,yb r h⟩
 . exact .inl ⟨rfl,zE r h⟩
def Y8 (pf:List Nat) (o:Op):Bool:=match o with
 | .call c=>match c.callee with
   | .value (.func f)=>pf.any fun g=>Nat.beq g f
   | .value _=>false
   | _=>quiet o
 | o=>quiet o
def Cq (C:cq) (o:Op) (ρ:Env):Option AV:=match o with
 | .move x | .assign x=>some (ρ.ev C x)
 | .makeFunc fn first cap=>some (.func fn (first.toList.map (ρ.ev C)) (cap.toList.map (ρ.ev C)))
 | _=>none
theorem yJ {C:cq} {o:Op} {ρ:Env} {v:AV} (h:Cq C o ρ=some v) (mu:Bool) (U:St):re C mu o ρ U=.val v:=by
 unfold Cq at h
 split at h
 . cases h; rfl
 . cases h; rfl
 . cases h; rfl
 . cases h
def ua (C:cq) (mu pf:List Nat) (ops:Array Oper):List Oper->Env->St->(Env->St->Prop)->(AV->St->Prop)->Prop
 | [],ρ,U,K,_=>K ρ U
 | o::rest,ρ,U,K,Kp=>match o.guard with
   | none=>match Cq C o.op ρ with
     | some v=>ua C mu pf ops rest (ρ.dM o.dst v) U K Kp
     | none=>(re C (mC mu o) o.op ρ U).wp C U (fun v U=>ua C mu pf ops rest (ρ.dM o.dst v) U K Kp) Kp
   | some jw=>match Y8 pf o.op with
     | true=>ai C (Fu ops ρ jw) (re C (mC mu o) o.op ρ U) (fun v=>ua C mu pf ops rest (ρ.dM o.dst v) U K Kp)
     | false=>av (Fu ops ρ jw) ((re C (mC mu o) o.op ρ U).wp C U (fun v U=>ua C mu pf ops rest (ρ.dM o.dst v) U K Kp) Kp)
       (ua C mu pf ops rest (ρ.dM o.dst (.aF [])) U K Kp)
theorem uZ {C:cq} {mu pf:List Nat} {ops:Array Oper} {K:Env->St->Prop} {Kp:AV->St->Prop}:∀ (l:List Oper) (ρ:Env) (U:St),
 ua C mu pf ops l ρ U K Kp->nW C mu ops l ρ U K Kp
 | [],_,_,h=>h
 | o::rest,ρ,U,h=>by
   have step:∀ {r:aD},r.wp C U (fun v U=>ua C mu pf ops rest (ρ.dM o.dst v) U K Kp) Kp ->
    r.wp C U (fun v ad=>nW C mu ops rest (ρ.dM o.dst v) ad K Kp) Kp:=fun hr=>aD.wp_mono (fun v ad hv=>uZ rest _ _ hv) _ hr
   simp only [ua] at h
   simp only [nW]
   show av (gq ops ρ o.guard) ((iK C (mC mu o) o.op ρ U).wp C U (fun v ad=>nW C mu ops rest (ρ.dM o.dst v) ad K Kp) Kp) (nW C mu ops rest (ρ.dM o.dst (.aF [])) U K Kp)
   rw [<- ow]
   cases hg:o.guard with
   | none =>
     rw [hg] at h
     simp only at h
     refine ⟨fun _=>?_,fun hf=>(by cases hf)⟩
     split at h
     . rename_i v hv
       rw [yJ hv]
       exact uZ rest _ _ h
     . exact step h
   | some jw =>
     rw [hg] at h
     simp only at h
     rw [Fv]
     split at h
     . rcases yc h with ⟨hb,v,hv,hk⟩ | ⟨hb,hk⟩
       . rw [hb]
         refine ⟨fun _=>?_,fun hf=>(by cases hf)⟩
         exact aD.Lk _ hv (uZ rest _ _ hk)
       . rw [hb]
         exact ⟨fun hf=>(by cases hf),fun _=>uZ rest _ _ hk⟩
     . cases hv:Fu ops ρ jw <;> rw [hv] at h <;> simp only [av] at h ⊢
       exact ⟨fun e=>step (h.1 e),fun e=>uZ rest _ _ (h.2 e)⟩
def ax (C:cq):aD->(AV->Prop)->Prop
 | .val v,k=>k v
 | @aD.cond p _ r,k=>p/\ax C r k
 | .enter f args,k=>∃ v,Pure C f args v/\k v
 | _,_=>False
theorem DQ {C:cq}:∀ (r:aD) {k:AV->Prop},ax C r k->∃ v,r.yv C v/\k v
 | .val v,k,h=>⟨v,rfl,h⟩
 | @aD.cond _ _ r,k,h=>let ⟨v,h1,h2⟩:=DQ r h.2; ⟨v,⟨h.1,h1⟩,h2⟩
 | .enter _ _,k,h=>h
 | .gx _ _ _,_,h=>h.elim
 | .new _ _ _,_,h=>h.elim
 | .ki _ _,_,h=>h.elim
 | .yield _ _,_,h=>h.elim
 | .panic _,_,h=>h.elim
 | .bad,_,h=>h.elim
def AZ (C:cq) (ρ:Env) (o:Op):List Nat:=o.operands.toList.flatMap fun x=>cM (ρ.ev C x)
def Zb (b:Bool) (P k:Prop):Prop:=match b with
 | true=>P/\k
 | false=>k
def YA (b:Bool) (P k:Prop):Prop:=match b with
 | true=>k
 | false=>P/\k
theorem MQ {ops:Array Oper} {i:Nat} {I:St->Prop} {U:St} {k:Prop} (h:YA (qx ops i) (I U) k):Ix ops I i U/\k:=by
 unfold Ix
 cases ha:qx ops i <;> rw [ha] at h <;> simp only [YA] at h
 . exact ⟨.inr h.1,h.2⟩
 . exact ⟨.inl (by unfold mJ; rw [ha]; rfl),h⟩
def yd (C:cq) (ops:Array Oper) (ρ:Env) (g:Option (Nat × Bool)) (i:Option AV) (r:aD) (k:AV->Prop):Prop:=match g with
 | none=>match i with
   | some v=>k v
   | none=>ax C r k
 | some jw=>ai C (Fu ops ρ jw) r k
def gW (ops:Array Oper) (ρ:Env) (g:Option (Nat × Bool)) (A B:Prop):Prop:=match g with
 | none=>A
 | some jw=>av (Fu ops ρ jw) A B
def nG (C:cq) (mu:List Nat) (ops:Array Oper) (ao:St) (K:Env->St->Prop) (Kp:AV->St->Prop) (B:List Nat):List (Bool × Nat)->Env->St->Prop
 | [],ρ,U=>K ρ U
 | (true,i)::r,ρ,U=>match ops[i]? with
   | none=>False
   | some o=>match quiet o.op with
     | false=>False
     | true=>Zb (nI o.op) (∀ b ∈ AZ C ρ o.op,b ∈ B) (yd C ops ρ o.guard (Cq C o.op ρ) (re C (mC mu o) o.op ρ ao) fun v=>nG C mu ops ao K Kp B r (ρ.dM o.dst v) U)
 | (false,i)::r,ρ,U=>match ops[i]? with
   | none=>False
   | some o=>gW ops ρ o.guard ((re C (mC mu o) o.op ρ U).wp C U (fun v U=>YA (qx ops i) (cg B ao U) (nG C mu ops ao K Kp B r (ρ.dM o.dst v) U)) Kp)
      (nG C mu ops ao K Kp B r (ρ.dM o.dst (.aF [])) U)
def Ew (C:cq) (mu:List Nat) (ops:Array Oper) (ao:St) (K:Env->St->Prop) (Kp:AV->St->Prop):List (Bool × Nat)->List Nat->Env->St->Prop
 | [],_,ρ,U=>K ρ U
 | (true,i)::r,B,ρ,U=>match ops[i]? with
   | none=>False
   | some o=>match quiet o.op with
     | false=>False
     | true=>yd C ops ρ o.guard (Cq C o.op ρ) (re C (mC mu o) o.op ρ ao) fun v=>Ew C mu ops ao K Kp r (match nI o.op with | true=>AZ C ρ o.op++B | false=>B) (ρ.dM o.dst v) U
 | (false,i)::r,B,ρ,U=>nG C mu ops ao K Kp B ((false,i)::r) ρ U
def vT (C:cq) (mu:List Nat) (ops:Array Oper) (ao:St) (K:Env->St->Prop) (Kp:AV->St->Prop):List (Bool × Nat)->Env->St->Prop
 | [],ρ,U=>K ρ U
 | (true,i)::r,ρ,U=>match ops[i]? with
   | none=>False
   | some o=>match quiet o.op with
     | false=>False
     | true=>yd C ops ρ o.guard (Cq C o.op ρ) (re C (mC mu o) o.op ρ ao) fun v=>vT C mu ops ao K Kp r (ρ.dM o.dst v) U
 | (false,i)::r,ρ,U=>match mJ ops i,ops[i]? with
   | true,some o=>gW ops ρ o.guard ((re C (mC mu o) o.op ρ U).wp C U (fun v U=>vT C mu ops ao K Kp r (ρ.dM o.dst v) U) Kp) (vT C mu ops ao K Kp r (ρ.dM o.dst (.aF [])) U)
   | _,_=>False
section
variable {C:cq} {mu:List Nat} {ops:Array Oper} {ao:St} {K:Env->St->Prop} {Kp:AV->St->Prop}
theorem zW {ρ:Env} {g:Option (Nat × Bool)} {A B:Prop} (h:gW ops ρ g A B):(gq ops ρ g=.bool true/\A)\/(gq ops ρ g=.bool false/\B):=by
 unfold gW at h
 cases g with
 | none=>exact .inl ⟨rfl,h⟩
 | some jw =>
   simp only at h
   rw [Fv]
   cases hv:Fu ops ρ jw <;> rw [hv] at h <;> simp only [av] at h
   rename_i b
   cases b
   . exact .inr ⟨rfl,h.2 rfl⟩
   . exact .inl ⟨rfl,h.1 rfl⟩
theorem sD {ρ:Env} {g:Option (Nat × Bool)} {i:Option AV} {r:aD} {k:AV->Prop} (hi:∀ v,i=some v->r=.val v) (h:yd C ops ρ g i r k):(gq ops ρ g=.bool true/\∃ v,r.yv C v/\k v)\/(gq ops ρ g=.bool false/\k (.aF [])):=by
 unfold yd at h
 cases g with
 | none =>
   cases i with
   | none=>exact .inl ⟨rfl,DQ r h⟩
   | some v=>rw [hi v rfl]; exact .inl ⟨rfl,v,rfl,h⟩
 | some jw=>simp only at h; rw [Fv]; exact yc h
theorem vB {ρ:Env} {o:Op} {x:Operand} (hx:x ∈ o.operands.toList) {b:Nat} (hb:b ∈ cM (ρ.ev C x)):b ∈ AZ C ρ o:=List.mem_flatMap.2 ⟨x,hx,hb⟩
theorem o5 (B:List Nat):∀ (l:List (Bool × Nat)) (ρ:Env) (U:St),nG C mu ops ao K Kp B l ρ U->kx C mu ops B ao K Kp l ρ U
 | [],_,_,h=>h
 | (true,i)::r,ρ,U,h=>by
   simp only [nG] at h
   split at h
   . exact h.elim
   . rename_i o ho
     split at h
     . exact h.elim
     . rename_i hq
       have key:∀ {P k:Prop},Zb (nI o.op) P k->(nI o.op=true->P)/\k:=fun {P k} h=>by
        cases hr:nI o.op <;> rw [hr] at h <;> simp only [Zb] at h
        . exact ⟨fun h=>(by cases h),h⟩
        . exact ⟨fun _=>h.1,h.2⟩
       obtain ⟨hB,h⟩:=key h
       rcases sD (fun v hv=>yJ hv _ _) h with ⟨hg,v,hv,hk⟩ | ⟨hg,hk⟩
       . rw [ow] at hv
         exact ⟨o,v,ho,.inl ⟨hg,hq,fun hr x hx b hb=>hB hr b (vB hx hb),hv⟩,o5 B r _ _ hk⟩
       . exact ⟨o,.aF [],ho,.inr ⟨hg,rfl⟩,o5 B r _ _ hk⟩
 | (false,i)::r,ρ,U,h=>by
   simp only [nG] at h
   simp only [kx,jZ]
   split at h
   . exact h.elim
   . rename_i o ho
     rw [ho]
     simp only
     rw [ow] at h
     rcases zW h with ⟨hg,h⟩ | ⟨hg,h⟩
     . rw [hg]
       exact ⟨fun _=>aD.wp_mono (fun v U hv=>⟨(MQ (I:=cg B ao) hv).1,o5 B r _ _ (MQ (I:=cg B ao) hv).2⟩) _ h,fun h=>by cases h⟩
     . rw [hg]
       exact ⟨fun h=>(by cases h),fun _=>o5 B r _ _ h⟩
theorem CD:∀ (l:List (Bool × Nat)) (B:List Nat) (ρ:Env) (U:St),Ew C mu ops ao K Kp l B ρ U->∃ B',(∀ b ∈ B,b ∈ B')/\kx C mu ops B' ao K Kp l ρ U
 | [],B,_,_,h=>⟨B,fun _ h=>h,h⟩
 | (true,i)::r,B,ρ,U,h=>by
   simp only [Ew] at h
   split at h
   . exact h.elim
   . rename_i o ho
     split at h
     . exact h.elim
     . rename_i hq
       rcases sD (fun v hv=>yJ hv _ _) h with ⟨hg,v,hv,hk⟩ | ⟨hg,hk⟩
       . rw [ow] at hv
         obtain ⟨B',hB,hA⟩:=CD r _ _ _ hk
         refine ⟨B',fun b hb=>hB b ?_,o,v,ho,.inl ⟨hg,hq,fun hr x hx b hb=>hB b ?_,hv⟩,hA⟩
         . split
           . exact List.mem_append_right _ hb
           . exact hb
         . rw [hr]; exact List.mem_append_left _ (vB hx hb)
       . obtain ⟨B',hB,hA⟩:=CD r _ _ _ hk
         refine ⟨B',fun b hb=>hB b ?_,o,.aF [],ho,.inr ⟨hg,rfl⟩,hA⟩
         split
         . exact List.mem_append_right _ hb
         . exact hb
 | (false,i)::r,B,ρ,U,h=>⟨B,fun _ h=>h,o5 B _ _ _ h⟩
end
def Et:List (Bool × Nat)->Bool
 | []=>true
 | (true,_)::r=>Et r
 | (false,_)::r=>r.isEmpty
theorem CC {C:cq} {mu:List Nat} {ops:Array Oper} {ao:St} {K:Env->St->Prop} {Kp:AV->St->Prop}:∀ (l:List (Bool × Nat)) (B:List Nat) (ρ:Env) (U:St),Et l=true->vT C mu ops ao K Kp l ρ U->∃ B',(∀ b ∈ B,b ∈ B')/\kx C mu ops B' ao K Kp l ρ U
 | [],B,_,_,_,h=>⟨B,fun _ h=>h,h⟩
 | (true,i)::r,B,ρ,U,hl,h=>by
   simp only [vT] at h
   split at h
   . exact h.elim
   . rename_i o ho
     split at h
     . exact h.elim
     . rename_i hq
       rcases sD (fun v hv=>yJ hv _ _) h with ⟨hg,v,hv,hk⟩ | ⟨hg,hk⟩
       . rw [ow] at hv
         obtain ⟨B',hB,hA⟩:=CC r (AZ C ρ o.op++B) _ _ hl hk
         exact ⟨B',fun b hb=>hB b (List.mem_append_right _ hb),o,v,ho,.inl ⟨hg,hq,fun hr x hx b hb=>hB b (List.mem_append_left _ (vB hx hb)),hv⟩,hA⟩
       . obtain ⟨B',hB,hA⟩:=CC r B _ _ hl hk
         exact ⟨B',hB,o,.aF [],ho,.inr ⟨hg,rfl⟩,hA⟩
 | (false,i)::r,B,ρ,U,hl,h=>by
   obtain rfl:r=[]:=by simpa [Et] using hl
   refine ⟨B,fun _ h=>h,?_⟩
   simp only [vT] at h
   simp only [kx,jZ]
   split at h
   . rename_i o Iy ho
     rw [ho]
     simp only
     rw [ow] at h
     rcases zW h with ⟨hg,h⟩ | ⟨hg,h⟩
     . rw [hg]
       exact ⟨fun _=>aD.wp_mono (fun v U hv=>⟨.inl Iy,hv⟩) _ h,fun h=>by cases h⟩
     . rw [hg]
       exact ⟨fun h=>(by cases h),fun _=>h⟩
   . exact h.elim
def x6 (C:cq) (mu:List Nat) (ops:Array Oper) (ao:St) (Kp:AV->St->Prop) (B:List Nat) (o:Oper) (K:Env->St->Prop) (ρ:Env) (U:St):Prop :=
 gW ops ρ o.guard ((re C (mC mu o) o.op ρ U).wp C U (fun v U=>cg B ao U/\K (ρ.dM o.dst v) U) Kp) (K (ρ.dM o.dst (.aF [])) U)
def K3 (C:cq) (mu:List Nat) (ops:Array Oper) (ao:St) (K:Env->St->Prop) (Kp:AV->St->Prop) (B:List Nat) (i j:Nat) (post:List (Bool × Nat)) (ρ:Env) (U:St):Prop:=match ops[i]?,ops[j]? with
 | some oi,some oj=>x6 C mu ops ao Kp B oi (fun ρ U=>x6 C mu ops ao Kp B oj (fun ρ U=>nG C mu ops ao K Kp B post ρ U) ρ U) ρ U /\
    x6 C mu ops ao Kp B oj (fun ρ U=>x6 C mu ops ao Kp B oi (fun ρ U=>nG C mu ops ao K Kp B post ρ U) ρ U) ρ U
 | _,_=>False
def K2 (ops:Array Oper) (pre:List (Bool × Nat)) (i j:Nat) (post:List (Bool × Nat)):Bool :=
 (match nh ops pre (Array.replicate ops.size false) with
   | some l=>(Region.ready .any ops l == [i,j]) && ((Region.ready .any ops (l.setIfInBounds i true) == [j]) && ((Region.ready .any ops (l.setIfInBounds j true) == [i]) && (!Nat.beq i j && gH ops post ((l.setIfInBounds i true).setIfInBounds j true))))
   | none=>false) && Nat.beq (pre.length+(post.length+2)) ops.size
section
variable {C:cq} {mu:List Nat} {ops:Array Oper} {ao:St} {K:Env->St->Prop} {Kp:AV->St->Prop} {B:List Nat}
theorem DO {i:Nat} {o:Oper} {K0 K1:Env->St->Prop} {I':St->Prop} (ho:ops[i]?=some o) (hI:∀ U,cg B ao U->I' U) (hk:∀ ρ U,cg B ao U->K0 ρ U->K1 ρ U) {ρ:Env} {U:St} (hs:cg B ao U) (h:x6 C mu ops ao Kp B o K0 ρ U):jZ C mu ops I' i K1 Kp ρ U:=by
 unfold jZ
 rw [ho]
 dsimp only
 unfold x6 at h
 rw [ow] at h
 rcases zW h with ⟨hg,h⟩ | ⟨hg,h⟩
 . rw [hg]
   exact ⟨fun _=>aD.wp_mono (fun v U hv=>⟨hI _ hv.1,hk _ _ hv.1 hv.2⟩) _ h,fun h=>by cases h⟩
 . rw [hg]
   exact ⟨fun h=>(by cases h),fun _=>hk _ _ hs h⟩
theorem VC {i j:Nat} {post:List (Bool × Nat)} {po:Array Bool} (h1:Region.ready .any ops po=[i,j]) (h2:Region.ready .any ops (po.setIfInBounds i true)=[j]) (h3:Region.ready .any ops (po.setIfInBounds j true)=[i]) (fJ:i ≠ j)
 (h4:gH ops post ((po.setIfInBounds i true).setIfInBounds j true)=true) {ρ:Env} {U:St} (hD:Dn ops po) (hI:cg B ao U) (h:K3 C mu ops ao K Kp B i j post ρ U):kW C mu ops (cg B ao) K Kp (post.length+2) po ρ U:=by
 unfold K3 at h
 split at h
 . rename_i oi oj S5 mY
   have key:∀ (a b:Nat) (oa ob:Oper),ops[a]?=some oa->ops[b]?=some ob->a ∈ Region.ready .any ops po->Region.ready .any ops (po.setIfInBounds a true)=[b]->gH ops post ((po.setIfInBounds a true).setIfInBounds b true)=true ->
    x6 C mu ops ao Kp B oa (fun ρ U=>x6 C mu ops ao Kp B ob (fun ρ U=>nG C mu ops ao K Kp B post ρ U) ρ U) ρ U ->
    jZ C mu ops (Ix ops (cg B ao) a) a (kW C mu ops (cg B ao) K Kp (post.length+1) (po.setIfInBounds a true)) Kp ρ U:=by
    intro a b oa ob hoa hob hra IC k9 hw
    refine DO hoa (fun _ h=>.inr h) (fun ρ1 aP xL hw1=>?_) hI hw
    refine ⟨fun h0=>(by rw [IC] at h0; cases h0),fun c hc=>?_⟩
    have Iu:=hc
    rw [IC,jg] at hc
    subst hc
    exact DO hob (fun _ h=>.inr h) (fun pT aZ xM Tg=>qG post _ pT aZ k9 ((hD.set hra).set Iu) (.inr xM) (o5 B _ _ _ Tg)) xL hw1
   refine ⟨fun h0=>(by rw [h1] at h0; cases h0),fun c hc=>?_⟩
   have Iu:=hc
   rw [h1] at hc
   simp only [cD,List.not_mem_nil,or_false] at hc
   rcases hc with rfl | rfl
   . exact key _ _ _ _ S5 mY Iu h2 h4 h.1
   . exact key _ _ _ _ mY S5 Iu h3 (by rw [Array.setIfInBounds_comm _ _ fJ.symm]; exact h4) h.2
 . exact h.elim
theorem rm {I:St->Prop} {Kp wE:AV->St->Prop} (hp:∀ v U,Kp v U->wE v U):∀ (n:Nat) (listed:Array Bool) (ρ:Env) (U:St),kW C mu ops I K Kp n listed ρ U->kW C mu ops I K wE n listed ρ U
 | 0,_,_,_,h=>h
 | n+1,listed,ρ,U,h=>⟨h.1,fun i hi=>by
   have h2:=h.2 i hi
   unfold jZ at h2 ⊢
   split
   . rename_i ho; rw [ho] at h2; exact rm hp n _ _ _ h2
   . rename_i o ho
     rw [ho] at h2
     dsimp only at h2 ⊢
     cases hg:gq ops ρ o.guard <;> rw [hg] at h2 <;> simp only [av] at h2 ⊢
     exact ⟨fun e=>aD.wp_mono (fun v U hv=>⟨hv.1,rm hp n _ _ _ hv.2⟩) _ (aD.Ay hp _ (h2.1 e)),fun e=>rm hp n _ _ _ (h2.2 e)⟩⟩
theorem bo.Nz {nt id:Nat} {ro:Ro} {Q:Ex->Env->St->Prop} {ρ:Env} {U:St} (pre:List (Bool × Nat)) (i j:Nat) (post:List (Bool × Nat)) (hm:C.P.follows .mixedOrders=true) (cr:jY nt ops=true) (hp:K2 ops pre i j post=true) (SP:∀ v U,Kp v U->wF Q v U)
 (h:nG C mu ops U (fun dx ad=>K3 C mu ops U (KQ Q) Kp B i j post dx ad) Kp B pre ρ U):bo C nt ro (.region id ops true) Q ρ U:=by
 simp only [K2,bL] at hp
 obtain ⟨h1,h2⟩:=hp
 have h2:=ey h2
 split at h1
 . rename_i l hl
   simp only [bL,beq_iff_eq,Bool.not_eq_true'] at h1
   obtain ⟨k1,k2,k3,k4,k5⟩:=h1
   have fJ:i ≠ j:=fun e=>by subst e; simp at k4
   refine bo.yf mu (cg B U) hm cr (rm SP _ _ _ _ ?_)
   have:=vS (fun dx ad hD hI hw=>VC k1 k2 k3 fJ k5 hD hI hw) pre _ ρ U hl (Dn.none _ _) (fun _ _=>rfl) (o5 B _ _ _ h)
   rw [h2] at this
   exact this
 . cases h1
end
structure Qr where
 xU:(St->Prop)->St->Prop
 n:St->Prop
 e:Nat->St->Prop
 r:St->Prop
def qW:Nat->Type
 | 0=>Qr->St->Prop
 | n+1=>AV->qW n
def qW.app:(n:Nat)->qW n->List AV->Qr->St->Prop
 | 0,f,_,q,U=>f q U
 | n+1,f,x::xs,q,U=>qW.app n (f x) xs q U
 | n+1,f,[],q,U=>qW.app n (f .any) [] q U
def qW.lam:(n:Nat)->(List AV->Qr->St->Prop)->qW n
 | 0,F=>fun q U=>F [] q U
 | n+1,F=>fun x=>qW.lam n (fun xs q U=>F (x::xs) q U)
theorem qW.oT:∀ (n:Nat) (F:List AV->Qr->St->Prop) (xs:List AV) (q:Qr) (U:St),xs.length=n->qW.app n (qW.lam n F) xs q U=F xs q U
 | 0,F,[],q,U,_=>rfl
 | n+1,F,x::xs,q,U,h=>qW.oT n (fun xs U=>F (x::xs) U) xs q U (by simpa using h)
 | 0,F,_::_,q,U,h=>by simp at h
 | n+1,F,[],q,U,h=>by simp at h
def eG.st (L:eG) (s:LoopState) (p:Option Code):eG:={ L with state:=s,fe:=p }
def adJ (o:Nat) (k:St->Prop) (U:St):Prop:=∃ L,U.loop o=some L/\L.state=.ready/\k (U.set o (.loop { L with state:=.busy }))
def adM (o:Nat) (R:cA->St->Prop):Qr where
 xU:=adJ o
 n:=fun U=>∃ L,U.loop o=some L/\R (.ret (.bool true)) (U.set o (.loop { L with state:=.ready,fe:=none }))
 e:=fun id U=>∃ L,U.loop o=some L/\R (.ret (.bool false)) (U.set o (.loop { L with state:=.done,fe:=some (.exit id) }))
 r:=fun U=>∃ L,U.loop o=some L/\R (.ret (.bool false)) (U.set o (.loop { L with state:=.done,fe:=some .ret }))
def GH (o:Nat) (Kn:St->Prop) (Ke:Nat->St->Prop) (Kr:St->Prop) (Kp:AV->St->Prop):cA->St->Prop
 | .ret _,ad=>∃ L,ad.loop o=some L/\L.state ≠ .busy/\(match L.fe with
   | none=>Kn (ad.del o)
   | some .ret=>Kr (ad.del o)
   | some (.exit id)=>Ke id (ad.del o)
   | _=>False)
 | .panic x,ad=>Kp x ad
def nq (C:cq) (np:Nat) (fv:AV) (U:St) (B:qW np) (Kn:St->Prop) (Ke:Nat->St->Prop) (Kr:St->Prop) (Kp:AV->St->Prop):Prop :=
 match fv with
 | .func (.func jl) first cap=>dU C.P jl=true/\∀ (o:Nat) (L:eG),U.cY o->L.state=.ready->L.fe=none ->
   (∀ (args:List AV) (aP:St) (R:cA->St->Prop) (L1:eG),args.length=np->aP.loop o=some L1->L1.st .ready none=L->qW.app np B args (adM o R) aP->kV C o args aP R) ->
   ae C jl (first++[.pX o]++cap) (U.new o (.loop L)) (GH o Kn Ke Kr Kp)
 | _=>False
def AM (b:Bool) (A B:Prop):Prop:=match b with
 | true=>A
 | false=>B
def jx (n:Nat) (J:Fn n) (B:Fn n->Prop):Prop:=∀ j:Fn n,Fn.imp n J j->B j
def eP (n:Nat) (init:List AV) (U:St) (B:Fn n->Fn n):Prop :=
 ∃ I:Nat->Fn n,(∃ m,Fn.app n (I m) init U)/\∀ m,Fn.imp n (I m) (B (Fn.lam n fun vs U=>∃ m',m' < m/\Fn.app n (I m') vs U))
inductive An where
 | z
 | sq (live:Option (List Nat)) (a b:An)
 | cd (a b:An)
 | bk (a:An)
 | lp (live:List Nat) (a:An)
 | rg (mu pf:List Nat) (cK:Option Pl)
 | rb (mu:List Nat) (cK:Pl)
 | rl (mu:List Nat) (cK:Pl)
 | r2 (mu:List Nat) (pre:List (Bool × Nat)) (i j:Nat) (post:List (Bool × Nat))
 | rf (a b:An)
def mh (C:cq):Code->An->Qx->Env->St->Prop
 | .skip,_,Q,ρ,U=>Q.n ρ U
 | .exit i,_,Q,ρ,U=>Q.e i ρ U
 | .ret,_,Q,ρ,U=>Q.r ρ U
 | .seq a b,.sq none x y,Q,ρ,U=>mh C a x { Q with n:=fun ρ U=>mh C b y Q ρ U } ρ U
 | .seq a b,.sq (some live) x y,Q,ρ,U=>jx live.length (Fn.lam live.length fun vs U=>mh C b y Q (Cf live vs) U)
    fun j=>mh C a x { Q with n:=fun ρ U=>Fn.app live.length j (live.map ρ.get) U } ρ U
 | .cond c a b,.cd x y,Q,ρ,U=>av (ρ.ev C c) (mh C a x Q ρ U) (mh C b y Q ρ U)
 | .block i a,.bk x,Q,ρ,U=>mh C a x { Q with e:=fun k ρ U=>AM (Nat.beq k i) (Q.n ρ U) (Q.e k ρ U) } ρ U
 | .loop a,.lp live x,Q,ρ,U=>eP live.length (live.map ρ.get) U fun lp=>Fn.lam live.length fun vs U =>
    mh C a x { Q with n:=fun ρ U=>Fn.app live.length lp (live.map ρ.get) U } (Cf live vs) U
 | .region _ ops false,.rg mu pf none,Q,ρ,U=>ua C mu pf ops ops.toList ρ U Q.n Q.p
 | .region _ ops true,.rg mu pf (some cK),Q,ρ,U=>Ew C mu ops U Q.n Q.p cK.steps [] ρ U
 | .region _ ops true,.rb mu cK,Q,ρ,U=>∃ B:List Nat,nG C mu ops U Q.n Q.p B cK.steps ρ U
 | .region _ ops true,.rl mu cK,Q,ρ,U=>vT C mu ops U Q.n Q.p cK.steps ρ U
 | .region _ ops true,.r2 mu pre i j post,Q,ρ,U=>∃ B:List Nat,nG C mu ops U (fun dx ad=>K3 C mu ops U Q.n Q.p B i j post dx ad) Q.p B pre ρ U
 | .rangeFunc f ps a b,.rf x y,Q,ρ,U=>nq C ps.size (ρ.ev C f) U (qW.lam ps.size fun args qr U=>mh C a x
    { n:=fun ρ U=>qr.xU (fun U=>mh C b y { n:=fun _ U=>qr.n U,e:=fun i _ U=>qr.e i U,r:=fun _ U=>qr.r U,p:=fun _ _=>False } ρ U) U,e:=fun _ _ _=>False,r:=fun _ _=>False,p:=fun _ _=>False }
    ⟨vY ρ.get ps.toList args⟩ U) (fun U=>Q.n ρ U) (fun i U=>Q.e i ρ U) (fun U=>Q.r ρ U) (fun x U=>Q.p x U)
 | _,_,_,_,_=>False
def kP (nt:Nat):Bool->Code->An->Bool
 | _,.skip,_=>true
 | _,.exit _,_=>true
 | _,.ret,_=>true
 | top,.seq a b,.sq _ x y=>kP nt top a x && kP nt top b y
 | top,.cond _ a b,.cd x y=>kP nt top a x && kP nt top b y
 | top,.block _ a,.bk x=>kP nt top a x
 | top,.loop a,.lp _ x=>kP nt top a x
 | _,.region _ ops false,.rg _ _ none=>jY nt ops
 | _,.region _ ops true,.rg _ _ (some cK)=>jY nt ops && Gy ops cK
 | _,.region _ ops true,.rb _ cK=>jY nt ops && Gy ops cK
 | _,.region _ ops true,.rl _ cK=>jY nt ops && (Gy ops cK && Et cK.steps)
 | _,.region _ ops true,.r2 _ pre i j post=>jY nt ops && K2 ops pre i j post
 | top,.rangeFunc _ ps a b,.rf x y=>top && ps.toList.all (fun t=>Nat.blt t nt) && kP nt false a x && kP nt false b y
 | _,_,_=>false
theorem yz {C:cq} {nt:Nat} (hm:C.P.follows .mixedOrders=true):∀ (c:Code) (an:An) (top:Bool) (ro:Ro) (Q:Qx) (ρ:Env) (U:St),kP nt top c an=true->(top=true->ro=.fn) ->
 mh C c an Q ρ U->bo C nt ro c Q.q ρ U:=by
 intro c
 induction c with
 | skip=>intro an top ro Q ρ U cr ht h; exact bo.skip h
 | exit i=>intro an top ro Q ρ U cr ht h; exact bo.exit h
 | ret=>intro an top ro Q ρ U cr ht h; exact bo.ret h
 | seq a b xP IH =>
   intro an top ro Q ρ U cr ht h
   cases an <;> simp only [kP,bJ,bL] at cr
   rename_i live x y
   refine bo.seq ?_
   cases live with
   | none =>
     simp only [mh] at h
     refine (xP x top ro _ ρ U cr.1 ht h).mono fun e ρ U he=>?_
     cases e <;> first | exact IH y top ro Q ρ U cr.2 ht he | exact he
   | some live =>
     simp only [mh] at h
     have:=h (Fn.lam live.length fun vs U=>bo C nt ro b Q.q (Cf live vs) U) (Fn.Ie fun xs U hl hx=>by
      rw [Fn.oT _ _ _ _ hl] at hx ⊢
      exact IH y top ro Q _ _ cr.2 ht hx)
     refine (xP x top ro _ ρ U cr.1 ht this).mono fun e ρ U he=>?_
     cases e with
     | normal =>
       have kO:Fn.app live.length (Fn.lam live.length fun vs U=>bo C nt ro b Q.q (Cf live vs) U) (live.map ρ.get) U:=he
       rw [Fn.oT _ _ _ _ (by simp)] at kO
       exact bo.Ji kO (C7 ρ live)
     | exit i=>exact he
     | ret=>exact he
     | panic x=>exact he
 | cond c a b xP IH =>
   intro an top ro Q ρ U cr ht h
   cases an <;> simp only [kP,bJ,bL] at cr
   rename_i x y
   simp only [mh] at h
   cases hc:ρ.ev C c <;> rw [hc] at h <;> simp only [av] at h
   exact bo.cond hc (fun e=>xP x top ro Q ρ U cr.1 ht (h.1 e)) (fun e=>IH y top ro Q ρ U cr.2 ht (h.2 e))
 | block i a xP =>
   intro an top ro Q ρ U cr ht h
   cases an <;> simp only [kP,bJ] at cr
   rename_i x
   simp only [mh] at h
   refine bo.block ((xP x top ro _ ρ U cr ht h).mono fun e ρ U he=>?_)
   cases e with
   | exit k =>
     have kO:AM (Nat.beq k i) (Q.n ρ U) (Q.e k ρ U):=he
     simp only [xh]
     cases hb:Nat.beq k i with
     | true=>rw [hb] at kO; rw [if_pos (ey hb)]; exact kO
     | false=>rw [hb] at kO; rw [if_neg (fun e=>by subst e; simp at hb)]; exact kO
   | normal=>exact he
   | ret=>exact he
   | panic x=>exact he
 | loop a xP =>
   intro an top ro Q ρ U cr ht h
   cases an <;> simp only [kP,bJ] at cr
   rename_i live x
   simp only [mh] at h
   obtain ⟨I,⟨m,h0⟩,hr⟩:=h
   refine bo.loop (fun m ρ U=>Fn.app live.length (I m) (live.map ρ.get) U) (n:=m) h0 fun m ρ U hI=>?_
   have:=Fn.IJ (hr m) _ _ (by simp) hI
   rw [Fn.oT _ _ _ _ (by simp)] at this
   refine bo.Ji ((xP x top ro _ _ _ cr ht this).mono fun e dx ad he=>?_) (C7 ρ live)
   cases e with
   | normal =>
     have kO:Fn.app live.length (Fn.lam live.length fun vs U=>∃ m',m' < m/\Fn.app live.length (I m') vs U) (live.map dx.get) ad:=he
     rw [Fn.oT _ _ _ _ (by simp)] at kO
     exact kO
   | exit i=>exact he
   | ret=>exact he
   | panic x=>exact he
 | region id ops draw =>
   intro an top ro Q ρ U cr ht h
   have kp:wF Q.q=fun x U=>∀ ρ:Env,Q.p x U:=rfl
   cases draw with
   | false =>
     cases an with
     | rg mu pf cK =>
       cases cK with
       | none =>
         simp only [kP] at cr
         simp only [mh] at h
         refine bo.region mu cr ?_
         have h2:=uZ _ ρ U h
         exact tm (fun _ _ h=>h) (fun v U hv ρ=>hv) _ h2
       | some cK=>simp [kP] at cr
     | _=>simp [kP] at cr
   | true =>
     cases an with
     | rg mu pf cK =>
       cases cK with
       | none=>simp [kP] at cr
       | some cK =>
         simp only [kP,bL] at cr
         simp only [mh] at h
         obtain ⟨B,_,hA⟩:=CD _ _ _ _ h
         refine bo.rG mu B cK.steps hm cr.1 (CB cr.2) ?_
         exact iC (fun _ _ h=>h) (fun v U hv ρ=>hv) _ hA
     | rb mu cK =>
       simp only [kP,bL] at cr
       simp only [mh] at h
       obtain ⟨B,hB⟩:=h
       refine bo.rG mu B cK.steps hm cr.1 (CB cr.2) ?_
       exact iC (fun _ _ h=>h) (fun v U hv ρ=>hv) _ (o5 B _ _ _ hB)
     | rl mu cK =>
       simp only [kP,bL] at cr
       simp only [mh] at h
       obtain ⟨B,_,hA⟩:=CC _ [] _ _ cr.2.2 h
       refine bo.rG mu B cK.steps hm cr.1 (CB cr.2.1) ?_
       exact iC (fun _ _ h=>h) (fun v U hv ρ=>hv) _ hA
     | r2 mu pre i j post =>
       simp only [kP,bL] at cr
       simp only [mh] at h
       obtain ⟨B,hB⟩:=h
       exact bo.Nz (mu:=mu) (B:=B) pre i j post hm cr.1 cr.2 (fun v U hv ρ=>hv) hB
     | _=>simp [kP] at cr
 | rangeFunc f ps a b xP IH =>
   intro an top ro Q ρ U cr ht h
   cases an <;> simp only [kP,bJ,bL] at cr
   rename_i x y
   obtain ⟨⟨⟨h1,h2⟩,h3⟩,h4⟩:=cr
   have FX:=ht h1
   subst FX
   simp only [mh,nq] at h
   split at h
   . rename_i jl first cap hf
     obtain ⟨sc,h⟩:=h
     refine bo.rangeFunc 0 hf sc fun o ho=>?_
     refine (h o ⟨ρ.get,nt,ps,a,b,.ready,none,0⟩ ho rfl rfl ?_).mono fun r ad hr=>?_
     . intro args aP R L1 hl hU fg hB
       obtain ⟨r1,r2,r3,r4,r5,r6,r7,r8⟩:=L1
       simp only [eG.st,eG.mk.injEq,true_and] at fg
       obtain ⟨e1,e2,e3,e4,e5,e6⟩:=fg
       subst e1 e2 e3 e4 e5 e6
       rw [qW.oT _ _ _ _ _ hl] at hB
       refine kV.Gt hU (by simpa using hl) (fun t ht=>by
        have:=eC.1 h2 t ht
        exact Nat.le_of_ble_eq_true this) ?_
       refine (xP x false (.round o) _ _ _ h3 (fun h=>by cases h) hB).mono fun e dx ad he=>?_
       cases e with
       | normal =>
         obtain ⟨L,k1,k2,k3⟩:=he
         refine ⟨L,k1,k2,(IH y false (.round o) _ _ _ h4 (fun h=>by cases h) k3).mono fun e pT aZ he=>?_⟩
         cases e with
         | normal=>exact he
         | exit i=>exact he
         | ret=>exact he
         | panic x=>exact he
       | exit i=>exact he
       | ret=>exact he
       | panic x=>exact he
     . cases r with
       | ret v =>
         obtain ⟨L,k1,k2,k3⟩:=hr
         refine ⟨L,k1,k2,?_⟩
         split at k3
         . rename_i hp; rw [hp]; exact k3
         . rename_i hp; rw [hp]; exact k3
         . rename_i hp; rw [hp]; exact k3
         . exact k3.elim
       | panic v=>exact hr
   . exact h.elim
 | scope a xP=>intro an top ro Q ρ U cr; cases an <;> simp [kP] at cr
 | label l=>intro an top ro Q ρ U cr; cases an <;> simp [kP] at cr
 | goto l=>intro an top ro Q ρ U cr; cases an <;> simp [kP] at cr
 | refuse w=>intro an top ro Q ρ U cr; cases an <;> simp [kP] at cr
def br (vt:Option (Bool × Nat)) (p:AV) (U:St) (k:AV->Prop):Prop:=match ah vt p U with
 | .val v=>k v
 | @aD.cond q _ (.val v)=>q/\k v
 | _=>False
def CF (P:Program) (ρ:Env) (U:St):List ResultVar->(List AV->Prop)->Prop
 | [],k=>k []
 | .tmp t::rs,k=>CF P ρ U rs fun vs=>k (ρ.get t::vs)
 | .cell t ty::rs,k=>br (mF P ty) (ρ.get t) U fun v=>CF P ρ U rs fun vs=>k (v::vs)
theorem u3 {P:Program} {ρ:Env} {U:St}:∀ (l:List ResultVar) (k:List AV->Prop),CF P ρ U l k->ue P ρ U l k
 | [],_,h=>h
 | .tmp t::rs,k,h=>u3 rs _ h
 | .cell t ty::rs,k,h=>by
   simp only [CF,br] at h
   simp only [ue,yN]
   rw [show td P ty (ρ.get t) U=ah (mF P ty) (ρ.get t) U from rfl]
   split at h
   . rename_i hl; rw [hl]; exact u3 rs _ h
   . rename_i hl; rw [hl]; exact ⟨h.1,u3 rs _ h.2⟩
   . exact h.elim
def ak (R:cA->St->Prop) (x:AV) (U:St):Prop:=∃ x' ad,mR x U x' ad/\R (.ret x') ad
def aa (R:cA->St->Prop) (x:AV) (U:St):Prop:=R (.panic x) U
def adU (P:Program) (fn:Func) (R:cA->St->Prop):Qx where
 n:=fun ρ U=>CF P ρ U fn.results.toList fun vs=>ak R (ug vs) U
 e:=fun _ _ _=>False
 r:=fun ρ U=>CF P ρ U fn.results.toList fun vs=>ak R (ug vs) U
 p:=aa R
def Js (C:cq) (fn:Func) (an:An) (args:List AV) (R:cA->St->Prop) (U:St):Prop:=match fn.body with
 | some c=>mh C c an (adU C.P fn R) (Env.iJ args) U
 | none=>False
def okF (fn:Func) (an:An) (n:Nat):Bool:=match fn.body with
 | some c=>kP fn.ntmps true c an && Nat.ble n fn.ntmps
 | none=>false
theorem ae.U4 {C:cq} (hm:C.P.follows .mixedOrders=true) {f:FuncId} {fn:Func} (an:An) {args:List AV} {R:cA->St->Prop} {U:St} (hf:C.P.funcs[f]?=some fn) (cr:okF fn an args.length=true)
 (h:Js C fn an args R U):ae C f args U R:=by
 unfold okF at cr
 unfold Js at h
 split at cr
 . rename_i c hb
   rw [hb] at h
   simp only [bL] at cr
   refine ae.IZ hf hb (Nat.le_of_ble_eq_true cr.2) ?_
   refine (yz hm c an true .fn _ _ _ cr.1 (fun _=>rfl) h).mono fun e ρ U he=>?_
   cases e with
   | normal=>exact u3 _ _ he
   | ret=>exact u3 _ _ he
   | panic x=>exact he
   | exit i=>exact he
 . cases cr
theorem ak.mk {R:cA->St->Prop} {x:AV} {U:St} (h:R (.ret x) U):ak R x U:=⟨x,U,mR.refl _ _,h⟩
end Go.Rip
namespace Go.Rip
open Go.RowKit
section
variable {C:cq} {U:St} {K:AV->St->Prop} {Kp:AV->St->Prop}
@[simp] theorem al (v:AV):(aD.val v).wp C U K Kp=K v U:=rfl
@[simp] theorem kB (v:AV) (b:Nat) (x:Live):(aD.gx v b x).wp C U K Kp=K v (U.set b x):=rfl
@[simp] theorem ju (k:NV) (x:Live):(aD.new k none x).wp C U K Kp=∀ b,U.cY b->K (k.at b) (U.new b x):=rfl
@[simp] theorem aej (k:NV) (d:Nat) (x:Live):(aD.new k (some d) x).wp C U K Kp=∀ b,(U.del d).cY b->K (k.at b) ((U.del d).new b x):=rfl
@[simp] theorem jW (f:FuncId) (args:List AV):(aD.enter f args).wp C U K Kp=ae C f args U (ag K Kp):=rfl
@[simp] theorem wA (f:Nat) (args:List AV):(aD.yield f args).wp C U K Kp=kV C f args U (ag K Kp):=rfl
@[simp] theorem Sy (v:AV):(aD.panic v).wp C U K Kp=Kp v U:=rfl
@[simp] theorem wp_cond (p:Prop) [Decidable p] (r:aD):(aD.cond p r).wp C U K Kp=(p/\r.wp C U K Kp):=rfl
@[simp] theorem ael:aD.bad.wp C U K Kp=False:=rfl
@[simp] theorem aem (p:Prop) [Decidable p] (r s:aD):(if p then r else s).wp C U K Kp=if p then r.wp C U K Kp else s.wp C U K Kp:=by split <;> rfl
@[simp] theorem bu (x:AV):ag K Kp (.ret x) U=K x U:=rfl
@[simp] theorem aan (x:AV):ag K Kp (.panic x) U=Kp x U:=rfl
end
@[simp] theorem aao (b:Bool) (A B:Prop):av (.bool b) A B=((b=true->A)/\(b=false->B)):=rfl
theorem bH (A B:Prop):av (.bool true) A B=A:=by simp [av]
theorem bq (A B:Prop):av (.bool false) A B=B:=by simp [av]
theorem bR (p:Prop) [Decidable p] (A B:Prop):av (.bool (decide p)) A B=((p->A)/\(¬ p->B)):=by simp [av]
@[simp] theorem aU (b w:Bool):aH (.bool b) w=.bool (b == w):=rfl
@[simp] theorem aee (w:Bool):aH (.aF []) w=.bool false:=rfl
@[simp] theorem lr (v:AV):CJ true v=v:=rfl
@[simp] theorem Zd (v:AV):CJ false v=.aF []:=rfl
@[simp] theorem aI (C:cq) (b:Bool) (r:aD) (k:AV->Prop):ai C (.bool b) r k=ej C b r k:=rfl
@[simp] theorem pJ (C:cq) (b:Bool) (v:AV) (k:AV->Prop):ej C b (.val v) k=k (CJ b v):=rfl
@[simp] theorem aaq (C:cq) (b:Bool) (p:Prop) [Decidable p] (r:aD) (k:AV->Prop):ej C b (.cond p r) k=((b=true->p)/\ej C b r k):=rfl
@[simp] theorem Y7 (C:cq) (b:Bool) (f:FuncId) (args:List AV) (k:AV->Prop):ej C b (.enter f args) k=∃ v,(b=true->Pure C f args v)/\k (CJ b v):=rfl
@[simp] theorem bV (C:cq) (k:AV->Prop):∀ r:aD,(ej C false r k)=k (.aF [])
 | .val v=>rfl
 | @aD.cond _ _ r=>by simp only [ej]; rw [bV C k r]; simp
 | .enter _ _=>by simp [ej]
 | .gx _ _ _=>by simp [ej]
 | .new _ _ _=>by simp [ej]
 | .ki _ _=>by simp [ej]
 | .yield _ _=>by simp [ej]
 | .panic _=>by simp [ej]
 | .bad=>by simp [ej]
@[simp] theorem aC (C:cq) (v:AV) (k:AV->Prop):ax C (.val v) k=k v:=rfl
@[simp] theorem iD (C:cq) (p:Prop) [Decidable p] (r:aD) (k:AV->Prop):ax C (.cond p r) k=(p/\ax C r k):=rfl
@[simp] theorem GB (C:cq) (f:FuncId) (args:List AV) (k:AV->Prop):ax C (.enter f args) k=∃ v,Pure C f args v/\k v:=rfl
theorem tp (C:cq) (k:AV->Prop):∀ r:aD,ej C true r k=ax C r k
 | .val v=>rfl
 | @aD.cond _ _ r=>by simp only [ej,ax,tp C k r]; simp
 | .enter _ _=>by simp [ej,ax]
 | .gx _ _ _=>by simp [ej,ax]
 | .new _ _ _=>by simp [ej,ax]
 | .ki _ _=>by simp [ej,ax]
 | .yield _ _=>by simp [ej,ax]
 | .panic _=>by simp [ej,ax]
 | .bad=>by simp [ej,ax]
@[simp] theorem bQ (C:cq) (k:AV->Prop) (r:aD):ej C true r k=ax C r k:=tp C k r
theorem BA (C:cq) (k:AV->Prop) (r:aD) (p:Prop) [Decidable p]:ej C (decide p) r k=((p->ax C r k)/\(¬ p->k (.aF []))):=by
 by_cases h:p <;> simp [h]
theorem zD (C:cq) (k:AV->Prop) (r:aD) (p:Prop) [Decidable p]:ej C (!decide p) r k=((p->k (.aF []))/\(¬ p->ax C r k)):=by
 by_cases h:p <;> simp [h]
@[simp] theorem aL (b:Bool) (x y:AV):bp (.bool b) x y=.val (if b=true then x else y):=rfl
@[simp] theorem ite_bool (b x y:Bool):(if b=true then AV.bool x else AV.bool y)=.bool (if b=true then x else y):=by split <;> rfl
section
variable (bt:BT) (l:Bool) (k:IntKind) (a b:Int) (s t:List UInt8)
@[simp] theorem bj:ar .eql bt l (.int k a) (.int k b)=.val (.bool (decide (a=b))):=by simp only [ar,if_true]; rfl
@[simp] theorem c6:ar .neq bt l (.int k a) (.int k b)=.val (.bool (!decide (a=b))):=by simp only [ar,if_true]; rfl
@[simp] theorem bP:ar .lss bt l (.int k a) (.int k b)=.val (.bool (decide (a < b))):=by simp only [ar,if_true]
@[simp] theorem kG:ar .leq bt l (.int k a) (.int k b)=.val (.bool (decide (a <= b))):=by simp only [ar,if_true]
@[simp] theorem dO:ar .gtr bt l (.int k a) (.int k b)=.val (.bool (decide (b < a))):=by simp only [ar,if_true,gt_iff_lt]
@[simp] theorem fO:ar .geq bt l (.int k a) (.int k b)=.val (.bool (decide (b <= a))):=by simp only [ar,if_true,ge_iff_le]
@[simp] theorem kF:ar .add bt l (.int k a) (.int k b)=gP k (a+b):=by simp only [ar,if_true]
@[simp] theorem iy:ar .sub bt l (.int k a) (.int k b)=gP k (a - b):=by simp only [ar,if_true]
@[simp] theorem Hn:ar .mul bt l (.int k a) (.int k b)=gP k (a * b):=by simp only [ar,if_true]
@[simp] theorem aal:ar .quo bt l (.int k a) (.int k b)=.cond (b ≠ 0) (gP k (a.tdiv b)):=by simp only [ar,if_true]
@[simp] theorem aam:ar .rem bt l (.int k a) (.int k b)=.cond (b ≠ 0) (.val (.int k (a.tmod b))):=by simp only [ar,if_true]
@[simp] theorem ix:ar .eql bt l (.str s) (.str t)=.val (.bool (decide (s=t))):=by
 show aD.val (.bool (s == t))=_
 rw [show (s == t)=decide (s=t) from nY.2 (by simp)]
@[simp] theorem qn:ar .neq bt l (.str s) (.str t)=.val (.bool (!decide (s=t))):=by
 show aD.val (.bool (s != t))=_
 rw [show (s != t)=!decide (s=t) from nY.2 (by simp)]
@[simp] theorem aai:ar .add bt l (.str s) (.str t)=.cond (s.length+t.length <= 4294967296) (.val (.str (s++t))):=rfl
@[simp] theorem Xd (x y:Bool) (i p:Bool) (f:Option (List FK)) (sl:Bool):ar .eql ⟨true,i,p,f,sl⟩ l (.bool x) (.bool y)=.val (.bool (x == y)):=by simp only [ar,if_true]
@[simp] theorem E0 (x y:Bool) (i p:Bool) (f:Option (List FK)) (sl:Bool):ar .neq ⟨true,i,p,f,sl⟩ l (.bool x) (.bool y)=.val (.bool (x != y)):=by simp only [ar,if_true]
@[simp] theorem aaj (x y:List AV) (i p q:Bool) (f:List FK) (sl:Bool):ar .eql ⟨q,i,p,some f,sl⟩ l (.agg x) (.agg y)=wq .bool (od f x y):=rfl
@[simp] theorem aak (x y:List AV) (i p q:Bool) (f:List FK) (sl:Bool):ar .neq ⟨q,i,p,some f,sl⟩ l (.agg x) (.agg y)=wq (fun r=>.bool (!r)) (od f x y):=rfl
@[simp] theorem acy (f:Bool->AV) (r:Bool):wq f (some r)=.val (f r):=rfl
@[simp] theorem dR (x:Bool):jC .not (.bool x)=.val (.bool (!x)):=rfl
@[simp] theorem fl:gP .i64 a=.cond (uo a) (.val (.int .i64 a)):=rfl
@[simp] theorem Qi:gP .u8 a=.val (.int .u8 (IntKind.u8.wrap a)):=rfl
end
theorem bw {n:Int} (h1:-9223372036854775808 <= n) (h2:n <= 9223372036854775807):uo n:=⟨h1,h2⟩
section
variable (sz b o:Nat) (p v:AV) (U:St) (L l:List AV)
theorem sn {U:St} {b:Nat} {L:List AV} (h:U.box b=some L) (n o:Nat):ah (some (false,n)) (.box b o) U=gJ (L.drop o):=by simp [ah,kX,h]
theorem MY {U:St} {b:Nat} {L:List AV} (h:U.box b=some L) (n o:Nat):ah (some (true,n)) (.box b o) U=.cond (n <= (L.drop o).length) (.val (.agg ((L.drop o).take n))):=by simp [ah,kX,h]
@[simp] theorem te:ah (some (false,sz)) (.cn L) U=gJ L:=rfl
@[simp] theorem Kv:ah (some (true,sz)) (.cn L) U=.cond (sz <= L.length) (.val (.agg (L.take sz))):=rfl
@[simp] theorem c7 (x:AV):gJ (x::L)=.val x:=rfl
theorem lB {U:St} {b:Nat} {L:List AV} (h:U.box b=some L) (t:Bool) (n o:Nat) (v:AV):aJ (some (t,n)) (.box b o) v U=.cond (v.cQ=true/\(au v).length=n/\o+n <= L.length) (.gx (.aF []) b (.box (aB L o (au v)))):=by simp [aJ,h]
@[simp] theorem bU:aY (.box b o)=.val (.box b o):=rfl
@[simp] theorem Ef:aY (.cn L)=.val (.cn L):=rfl
@[simp] theorem VG (f:Nat) (x y:List AV):aY (.func (.func f) x y)=.val (.func (.func f) x y):=rfl
@[simp] theorem bg (k:Nat):af (some k) (.box b o)=.val (.box b (o+k)):=rfl
@[simp] theorem cU (k:Nat):af (some k) (.cn L)=.val (.cn (L.drop k)):=rfl
@[simp] theorem JF (k n:Nat):sS (some (k,false,n)) (.agg L)=gJ (L.drop k):=rfl
@[simp] theorem aa5 (k n:Nat):sS (some (k,true,n)) (.agg L)=.cond (k+n <= L.length) (.val (.agg ((L.drop k).take n))):=rfl
@[simp] theorem wS (e n:Nat) (c:j9) (k:IntKind) (j:Int) (at_:Option (Nat × TypeId × Nat)):aG (some (e,sz)) at_ (.vec n c L) (.int k j)=.cond (0 <= j/\j < n) (.val (.cn (L.drop (j.toNat * sz)))):=rfl
@[simp] theorem Yy (e n z t:Nat) (k:IntKind) (j:Int) (at_:Option (Nat × TypeId × Nat)):aG (some (e,sz)) at_ (.ms b o n z t) (.int k j)=.cond (0 <= j/\j < n/\z=sz) (.val (.box b (o+j.toNat * sz))):=rfl
@[simp] theorem Du (s:List UInt8) (k:IntKind) (j:Int) (at_:Option (Nat × TypeId × Nat)) (vt:Option (Bool × Nat)):gj true at_ vt (.str s) (.int k j)=.cond (0 <= j/\j < s.length) (.val (.int .u8 (s.getD j.toNat 0).toNat)):=by simp [gj]
@[simp] theorem nE (s:List UInt8):cj (some true) (.str s)=.val (.int .i64 s.length):=rfl
@[simp] theorem uV (n:Nat) (c:j9):cj (some false) (.vec n c L)=.val (.int .i64 n):=rfl
@[simp] theorem MV (n z e:Nat):cj (some false) (.ms b o n z e)=.val (.int .i64 n):=rfl
@[simp] theorem len_nil:cj (some false) .aw=.val (.int .i64 0):=rfl
@[simp] theorem bB (k:Nat):aR (.aF L) k=gJ (L.drop k):=rfl
@[simp] theorem Lz:au (.agg L)=L:=rfl
@[simp] theorem LA (k:IntKind) (n:Int):au (.int k n)=[.int k n]:=rfl
@[simp] theorem C4 (s:List UInt8):au (.str s)=[.str s]:=rfl
@[simp] theorem aaZ (x:Bool):au (.bool x)=[.bool x]:=rfl
@[simp] theorem acr:au (.box b o)=[.box b o]:=rfl
@[simp] theorem acs (n:Nat) (c:j9):au (.vec n c L)=[.vec n c L]:=rfl
@[simp] theorem acJ (n z e:Nat):au (.ms b o n z e)=[.ms b o n z e]:=rfl
@[simp] theorem Uy:au .aw=[.aw]:=rfl
@[simp] theorem Xi:au .aV=[.aV]:=rfl
@[simp] theorem aa1 (f:Go.Fn) (x y:List AV):au (.func f x y)=[.func f x y]:=rfl
@[simp] theorem aa0 (x y:List AV):au (.eZ x y)=[.eZ x y]:=rfl
@[simp] theorem acI (m:Nat):au (.mp m)=[.mp m]:=rfl
@[simp] theorem Ri:(AV.agg L).cQ=true:=rfl
@[simp] theorem Rj (k:IntKind) (n:Int):(AV.int k n).cQ=true:=rfl
@[simp] theorem Rk (s:List UInt8):(AV.str s).cQ=true:=rfl
@[simp] theorem acv (x:Bool):(AV.bool x).cQ=true:=rfl
@[simp] theorem adF:(AV.box b o).cQ=true:=rfl
@[simp] theorem adG (n:Nat) (c:j9):(AV.vec n c L).cQ=true:=rfl
@[simp] theorem aeg (n z e:Nat):(AV.ms b o n z e).cQ=true:=rfl
@[simp] theorem VF:AV.aw.cQ=true:=rfl
@[simp] theorem aap:AV.aV.cQ=true:=rfl
@[simp] theorem acx (f:Go.Fn) (x y:List AV):(AV.func f x y).cQ=true:=rfl
@[simp] theorem acw (x y:List AV):(AV.eZ x y).cQ=true:=rfl
@[simp] theorem aef (m:Nat):(AV.mp m).cQ=true:=rfl
@[simp] theorem C2 (h:v.cQ=true):dT v=.cond True (.cP (au v)):=by simp [dT,h]
@[simp] theorem qI (s:List UInt8) (sl:Option (TypeId × Nat)) (lo hi:Option AV):eI true sl (.str s) lo hi=(match dt 0 lo,dt s.length hi with
 | some l,some h=>.cond (0 <= l/\l <= h/\h <= s.length) (.val (.str ((s.take h.toNat).drop l.toNat)))
 | _,_=>.bad):=by
 simp only [eI]
 cases dt 0 lo <;> cases dt (s.length:Int) hi <;> rfl
@[simp] theorem lD (d:Int):dt d none=some d:=rfl
@[simp] theorem iE (d:Int) (k:IntKind) (n:Int):dt d (some (.int k n))=some n:=rfl
@[simp] theorem yl (e n:Nat) (c:j9) (lo hi:Option AV) (st:Bool):eI st (some (e,sz)) (.vec n c L) lo hi=(match dt 0 lo,dt n hi with
 | some a,some b=>.cond (0 <= a/\a <= b/\b <= n) (.val (.vec (b.toNat - a.toNat) (vp c hi) ((L.take (b.toNat * sz)).drop (a.toNat * sz))))
 | _,_=>.bad):=by
 simp only [eI]
 cases dt 0 lo <;> cases dt (n:Int) hi <;> rfl
@[simp] theorem aeh (k:IntKind) (a b:Int):z7 (.int k a) (.int k b)=.val (.int k (if b > a then b else a)):=by simp [z7]
@[simp] theorem UY (k:IntKind) (a b:Int):xV (.int k a) (.int k b)=.val (.int k (if b < a then b else a)):=by simp [xV]
end
theorem ak.eq {R:cA->St->Prop} {x y:AV} {U:St} (h:R (.ret y) U) (e:x=y):ak R x U:=by subst e; exact ak.mk h
theorem Pure.go {C:cq} {f:FuncId} {args:List AV} {x:AV} {K:AV->St->Prop} {Kp:AV->St->Prop} {U:St} (h:Pure C f args x) (hk:K x U):ae C f args U (ag K Kp):=h U _ hk
end Go.Rip
