/- Lemmas for the proof: no conditions. -/
import Derived.Test.YtnfpmiiopiinbaaGreatDoorRipZz
import Derived.Test.YtnfpmiiopiinbaaGreatDoorRipB
set_option linter.unusedVariables false
set_option linter.unusedSimpArgs false
set_option linter.loopingSimpArgs false
namespace Go.Rip
open Go.RowKit
mutual
def flat:AV->Bool
 | .bool _ | .int _ _ | .str _ | .aW | .aq | .jO | .dV | .dq=>true
 | .iface _ v=>flat v
 | .agg l=>CQ l
 | .aH l=>CQ l
 | _=>false
def CQ:List AV->Bool
 | []=>true
 | x::xs=>flat x && CQ xs
end
mutual
theorem ay.flat {g g':Gh}:∀ (x:AV) (v:Value),flat x=true->ay g x v->ay g' x v
 | .bool _,_,_,hr=>hr
 | .int _ _,_,_,hr=>hr
 | .str _,_,_,hr=>hr
 | .aW,_,_,hr=>hr
 | .aq,_,_,hr=>hr
 | .jO,_,_,hr=>hr
 | .dV,_,_,hr=>hr
 | .dq,_,_,hr=>hr
 | .iface t x,v,h,hr=>by
   simp only [Rip.flat] at h
   simp only [ay] at hr ⊢
   obtain ⟨u,h1,h2⟩:=hr
   exact ⟨u,h1,ay.flat x u h h2⟩
 | .agg l,v,h,hr=>by
   simp only [Rip.flat] at h
   simp only [ay] at hr ⊢
   obtain ⟨vs,h1,h2,h3⟩:=hr
   exact ⟨vs,h1,h2,aD.flat l _ h h3⟩
 | .aH l,v,h,hr=>by
   simp only [Rip.flat] at h
   simp only [ay] at hr ⊢
   obtain ⟨vs,h1,h3⟩:=hr
   exact ⟨vs,h1,aD.flat l _ h h3⟩
theorem aD.flat {g g':Gh}:∀ (l:List AV) (vs:List Value),CQ l=true->aD g l vs->aD g' l vs
 | [],vs,_,h=>by cases vs <;> simp_all [aD]
 | x::xs,vs,h,hr=>by
   simp only [CQ,bS] at h
   simp only [aD] at hr ⊢
   obtain ⟨v,vs',h1,h2,h3⟩:=hr
   exact ⟨v,vs',h1,ay.flat x v h.1 h2,aD.flat xs vs' h.2 h3⟩
end
theorem ae.Y1 {C:cS} {f:Nat} {args args0:List AV} {U:St} {R:cY->St->Prop} {x:AV} (d:Nat) (C0:∀ i,closed (C.zn i)=true)
 (hw:∀ g vs,aD g (args.map (resolve d U)) vs->aD g args0 vs) (hargs:cT args0=true) (hx:flat x=true) (h:Pure C f args0 x) (hR:R (.ret x) U):ae C f args U R:=by
 intro g w vs hs hG ha
 have Lr:=hs.Dg
 let g0:Gh:={ base:=w.heap.size,w0:=w,place:=fun _=>none,ct:=(g.all w).ct,bY:=(g.all w).bY,res:=fun _=>false }
 have wP:bo g0 (bV ⟨.e,0⟩) w:={
  below:=Below.refl _ _
  le:=bT _
  ct:=fun q o u hu=>xx hs q o u hu
  bY:=fun q es c hu=>vN hs q es c hu
  live:=fun b x hb=>by cases hb
  apart:=fun b b' x x' p p' hb=>by cases hb
  res:=fun r hr=>by cases hr
  fin:=⟨0,fun n hn=>by cases hn; rfl,fun _ _=>rfl⟩ }
 have Pp:iU C g0:=⟨fun i=>ay.closed (g:=g) (g':=g0) (fun _ _ _ h=>Lr.ct _ _ _ h) (fun _ _ h=>Lr.bY _ _ h) _ _ (C0 i) (hG.1 i),fun i cs hi=>by
  obtain ⟨k1,t,fr,k2⟩:=hG.2 i cs hi
  refine ⟨Nat.lt_of_lt_of_le k1 hs.le,t,fr,?_⟩
  show w.heap[i]?=_
  rw [hs.below.block i k1]; exact k2⟩
 have Pu:aD g0 args0 vs:=aD.closed (g:=g.all w) (g':=g0) (fun _ _ _ h=>h) (fun _ _ h=>h) _ _ hargs (hw _ _ (Ck (fun x v _ hr=>BH hs d x v hr) ha))
 refine (h (bV ⟨.e,0⟩) (fun r _=>r=.ret x) rfl g0 w vs wP Pp Pu).mono ?_
 rintro e w' hp
 cases e with
 | panicked ch=>obtain ⟨g',ad,y,v,_,_,_,_,hz⟩:=hp; cases hz
 | outgrown=>exact hp.elim
 | returned v =>
   obtain ⟨g',ad,y,h1,h2,h3,hz⟩:=hp
   cases hz
   have uu:=h2.Dg
   have hle:=h1.trans uu
   have xJ:Below w.heap.size w w':=by
    have:=h2.below
    rw [h1.base,h1.w0] at this
    exact this
   let gF:Gh:={ base:=g.base,w0:=g.w0,place:=g.place,ct:=g.ct,bY:=g.bY,res:=g.res }
   have Io:Gh.Le g gF:=⟨rfl,rfl,fun _ _ h=>h,fun b o u hu=>hu,fun b u hu=>hu,fun _ h=>h,fun _ _ _=>rfl,fun _ _=>rfl⟩
   refine ⟨gF,U,x,Io,?_,ay.flat x v hx h3,hR⟩
   exact {
    below:=hs.below.trans (xJ.mono hs.le)
    le:=Nat.le_trans hs.le xJ.size
    ct:=fun q o u hu=>xx h2 q o u (hle.ct _ _ _ (Lr.ct _ _ _ hu))
    bY:=fun q es c hu=>vN h2 q es c (hle.bY _ _ (Lr.bY _ _ hu))
    live:=fun b l hb=>by
     obtain ⟨p,k1,k2,k3⟩:=hs.live b l hb
     have aQ:=k3.lt
     exact ⟨p,k1,k2,k3.frame Io.r (xJ.block _ aQ) (fun o=>rfl) rfl⟩
    apart:=hs.apart
    res:=fun r hr=>by
     obtain ⟨k1,k2⟩:=hs.res r hr
     exact ⟨k1,by rw [xJ.block _ (lN.1 k2).1]; exact k2⟩
    fin:=hs.fin }
inductive Wk:List AV->List AV->Prop
 | nil:Wk [] []
 | bg (x:AV) {l l':List AV}:Wk l l'->Wk (x::l) (x::l')
 | drop (x:AV) {l l':List AV}:Wk l l'->Wk (.any::l) (x::l')
theorem Wk.rep {g:Gh} {l l':List AV} (h:Wk l l'):∀ {vs:List Value},aD g l' vs->aD g l vs:=by
 induction h with
 | nil=>exact fun h=>h
 | bg x _ ih =>
   intro vs h
   simp only [aD] at h ⊢
   obtain ⟨u,us,h1,h2,h3⟩:=h
   exact ⟨u,us,h1,h2,ih h3⟩
 | drop x _ ih =>
   intro vs h
   simp only [aD] at h ⊢
   obtain ⟨u,us,h1,h2,h3⟩:=h
   exact ⟨u,us,h1,by simp only [ay],ih h3⟩
theorem Wk.cQ {g:Gh} {l l' r:List AV} {vs:List Value} (h:Wk l l') (hr:aD g (.cQ l'::r) vs):aD g (.cQ l::r) vs:=by
 simp only [aD,ay] at hr ⊢
 obtain ⟨u,us,h1,⟨aF,off,ws,h2,h3,h4⟩,h5⟩:=hr
 exact ⟨u,us,h1,⟨aF,off,ws,h2,h3,h.rep h4⟩,h5⟩
theorem Wk.any:∀ (l:List AV),Wk (l.map fun _=>.any) l
 | []=>.nil
 | x::l=>.drop x (Wk.any l)
end Go.Rip
namespace Go.Rip
open Go.RowKit
def ak (vt:Option (Bool × Nat)) (p:AV) (U:St):aC :=
 match vt,nr U p with
 | some (true,sz),some l=>.cond (sz <= l.length) (.val (.agg (l.take sz)))
 | some (false,_),some l=>jf l
 | _,_=>.bad
def aI (vt:Option (Bool × Nat)) (p v:AV) (U:St):aC :=
 match vt,p with
 | some (_,sz),.box b off=>match U.box b with
   | some l=>.cond (v.dh=true/\(ax v).length=sz/\off+sz <= l.length) (.jd (.aH []) b (.box (aA l off (ax v))))
   | none=>.bad
 | _,_=>.bad
def Zr (t:TypeId) (z:Option (List AV)):aC :=
 match z with
 | some l=>Hq t l
 | none=>.bad
def ek (st:Option (List (Nat × Nat))) (z:Option (List AV)) (at_:Option (Nat × TypeId × Nat)) (parts:List (Nat × AV)):aC :=
 match st,z with
 | some pl,some z=>gI (fun i=>pl[i]?) parts z fun z=>.val (.agg z)
 | none,some z=>match at_ with
   | some (_,_,sz)=>gI (fun i=>some (i * sz,sz)) parts z fun z=>.val (.agg z)
   | none=>.bad
 | _,_=>.bad
def ar (sl:Option (TypeId × Nat)) (z:Option (List AV)) (n:Nat) (mu:Bool) (parts:List (Nat × AV)):aC :=
 match sl with
 | some (e,sz)=>match z with
   | some z=>.cond (n * sz <= 16777216) (gI (fun i=>some (i * sz,sz)) parts (bO n z) fun cs=>.cond (cs.length=n * sz) (if mu then .pF n sz e none cs else .val (.vec n .full cs)))
   | none=>.bad
 | none=>.bad
def dW (mt:Option (FK × TypeId)) (m k v:AV) (U:St):aC :=
 match mt,m with
 | some (fk,_),.mp id=>match U.mp id with
   | some (ks,vs)=>match ml fk k ks 0,ql fk k with
     | some none,true=>.jd (.aH []) id (.mp (gV k v ks vs).1 (gV k v ks vs).2)
     | some (some i),true=>.jd (.aH []) id (.mp ks (vs.set i v))
     | _,_=>.bad
   | none=>.bad
 | _,_=>.bad
def eB (mt:Option (FK × TypeId)) (z:Option AV) (m k:AV) (ok:Bool) (U:St):aC :=
 match mt,kH U m with
 | some (fk,e),some (ks,vs)=>match z,ql fk k with
   | some z,true=>oe fk k z ok ks vs
   | _,_=>.bad
 | _,_=>.bad
def GV (it:Option IntKind) (is:Bool) (ss bs:Bool) (x:AV):aC :=
 match it,is,x with
 | some .i64,true,.int _ n=>.cond (wm n) (.val (.int .i64 n))
 | some k,true,.int _ n=>.val (.int k (k.wrap n))
 | none,true,.str s=>if ss=true then .val (.str s) else
   if bs=true then .cond (s.length <= 4294967296) (.val (.vec s.length .jc (s.map fun b=>.int .u8 b.toNat))) else .bad
 | _,_,_=>.bad
def fI (st:Bool) (sl:Option (TypeId × Nat)) (x:AV) (lo hi:Option AV):aC :=
 match x with
 | .str s=>match st,ej 0 lo,ej s.length hi with
   | true,some l,some h=>.cond (0 <= l/\l <= h/\h <= s.length) (.val (.str ((s.take h.toNat).drop l.toNat)))
   | _,_,_=>.bad
 | .vec n cap l=>match sl,ej 0 lo,ej n hi with
   | some (_,sz),some a,some b=>.cond (0 <= a/\a <= b/\b <= n) (.val (.vec (b.toNat - a.toNat) (xE cap hi) ((l.take (b.toNat * sz)).drop (a.toNat * sz))))
   | _,_,_=>.bad
 | .aq=>match sl,ej 0 lo,ej 0 hi with
   | some (_,_),some a,some b=>.cond (a=0/\b=0) (.val .aq)
   | _,_,_=>.bad
 | .ms b off n jA e=>match sl,ej 0 lo,ej n hi with
   | some (_,sz),some a,some h=>.cond (0 <= a/\a <= h/\h <= n/\(a < n\/a=0)/\jA=sz) (.val (.ms b (off+a.toNat * sz) (h.toNat - a.toNat) jA e))
   | _,_,_=>.bad
 | _=>.bad
def af (ft:Option Nat) (p:AV):aC :=
 match ft,p with
 | some o,.box b off=>.val (.box b (off+o))
 | some o,.cQ l=>.val (.cQ (l.drop o))
 | _,_=>.bad
def u4 (fv:Option (Nat × Bool × Nat)) (x:AV):aC :=
 match fv,x with
 | some (o,true,n),.agg l=>.cond (o+n <= l.length) (.val (.agg ((l.drop o).take n)))
 | some (o,false,_),.agg l=>jf (l.drop o)
 | _,_=>.bad
def aaJ (at_:Option (Nat × TypeId × Nat)) (x i:AV):aC :=
 match at_,x,i with
 | some (n,_,sz),.cQ l,.int _ j=>.cond (0 <= j/\j < n) (.val (.cQ (l.drop (j.toNat * sz))))
 | some (n,_,sz),.box b off,.int _ j=>.cond (0 <= j/\j < n) (.val (.box b (off+j.toNat * sz)))
 | _,_,_=>.bad
def aO (sl:Option (TypeId × Nat)) (at_:Option (Nat × TypeId × Nat)) (x i:AV):aC :=
 match sl,x,i with
 | none,x,i=>aaJ at_ x i
 | some (_,sz),.vec n _ l,.int _ j=>.cond (0 <= j/\j < n) (.val (.cQ (l.drop (j.toNat * sz))))
 | some (_,sz),.ms b off n jA _,.int _ j=>.cond (0 <= j/\j < n/\jA=sz) (.val (.box b (off+j.toNat * sz)))
 | _,_,_=>.bad
def hX (st:Bool) (at_:Option (Nat × TypeId × Nat)) (vt:Option (Bool × Nat)) (x i:AV):aC :=
 match x,i with
 | .str s,.int _ j=>if st=true then .cond (0 <= j/\j < s.length) (.val (.int .u8 (s.getD j.toNat 0).toNat)) else .bad
 | .agg l,.int _ j=>match at_ with
   | some (n,e,sz)=>match vt with
     | some (false,_)=>.cond (0 <= j/\j < n) (jf (l.drop (j.toNat * sz)))
     | some (true,k)=>.cond (0 <= j/\j < n/\k=sz/\j.toNat * sz+sz <= l.length) (.val (.agg ((l.drop (j.toNat * sz)).take sz)))
     | none=>.bad
   | none=>.bad
 | _,_=>.bad
def x9 (b:Bool) (t:TypeId) (x:AV):aC:=if b=true then .val (.iface t x) else .bad
def uJ (mt:Option (FK × TypeId)) (m:AV):aC :=
 match mt,m with
 | some _,.ga ks vs=>.new .it none (.iter (ks.zip vs) none)
 | _,_=>.bad
def wj (z:Option AV) (x:AV) (t:TypeId) (ok:Bool):aC :=
 match z,x with
 | some z,.iface u v=>if u=t then .val (if ok then .aH [v,.bool true] else v) else if ok then .val (.aH [z,.bool false]) else .bad
 | some z,.dq=>if ok then .val (.aH [z,.bool false]) else .bad
 | _,_=>.bad
def Dl (sl:Option (TypeId × Nat)) (z:Option (List AV)) (mu:Bool) (l c:AV):aC :=
 match sl,l,c with
 | some (e,sz),.int _ l,.int _ c=>match z with
   | some z=>.cond (0 <= l/\l=c/\c <= 65536) (if mu then .pF l.toNat sz e none (bO l.toNat z) else .oE l.toNat (bO l.toNat z) none ⟨l.toNat,e,sz⟩)
   | none=>.bad
 | _,_,_=>.bad
def CK (sl:Option (TypeId × Nat)) (z:Option (List AV)) (x:AV) (U:St):aC :=
 match sl,x with
 | some (e,sz),.ms b off n jA _=>match U.box b,z with
   | some l,some z=>.cond (jA=sz/\off+n * sz <= l.length) (.jd (.aH []) b (.box (aA l off (bO n z))))
   | _,_=>.bad
 | _,_=>.bad
def cE (lt:Option Bool) (x:AV):aC :=
 match lt,x with
 | some true,.str s=>.val (.int .i64 s.length)
 | some false,.vec n _ _=>.val (.int .i64 n)
 | some false,.ms _ _ n _ _=>.val (.int .i64 n)
 | some false,.aq=>.val (.int .i64 0)
 | _,_=>.bad
def eR (ap:Option (TypeId × Nat)) (mu:Bool) (s y:AV) (U:St):aC :=
 match ap,rI U y with
 | some (e,sz),some (m,l2) =>
   .cond (l2.length=m * sz) (match s with
   | .aq=>if m=0 then .val .aq else .cond (m <= 4294967296) (if mu then .pF m sz e none l2 else .oE m l2 none ⟨m,e,sz⟩)
   | .vec n .full l=>if m=0 then .val s else .cond (l.length=n * sz/\n+m <= 4294967296) (.oE (n+m) (l++l2) none ⟨n+m,e,sz⟩)
   | .vec n (.own τ) l=>.cond (U.tok τ=some ⟨n,e,sz⟩/\l.length=n * sz/\n+m <= 4294967296) (.oE (n+m) (l++l2) (some τ) ⟨n+m,e,sz⟩)
   | .ms b off n jA e'=>match U.box b with
     | some l=>.cond (off=0/\jA=sz/\e'=e/\n * sz <= l.length/\n+m <= 4294967296) (.pF (n+m) sz e (some b) (l.take (n * sz)++l2))
     | none=>.bad
   | _=>.bad)
 | _,_=>.bad
structure BT where
 b:Bool
 i:Bool
 p:Bool
 f:Option (List FK)
 s:Bool
def aaR (P:Program) (t:TypeId):BT:=⟨wW P t,lK P t,nA P t,MX P t,qz P t⟩
def eqR (f:Option (List FK)) (a b:List AV):Option Bool :=
 match f with
 | some ks=>pZ ks a b
 | none=>none
def aw (op:BinOp) (bt:BT) (lit:Bool) (x y:AV):aC :=
 match op,x,y with
 | .eql,.dq,.dq=>if bt.i=true/\lit=true then .val (.bool true) else .bad
 | .neq,.dq,.dq=>if bt.i=true/\lit=true then .val (.bool false) else .bad
 | .add,.int k a,.int k' b=>if k=k' then jq k (a+b) else .bad
 | .sub,.int k a,.int k' b=>if k=k' then jq k (a - b) else .bad
 | .mul,.int k a,.int k' b=>if k=k' then jq k (a * b) else .bad
 | .quo,.int k a,.int k' b=>if k=k' then .cond (b ≠ 0) (jq k (a.tdiv b)) else .bad
 | .rem,.int k a,.int k' b=>if k=k' then .cond (b ≠ 0) (.val (.int k (a.tmod b))) else .bad
 | .and,.int k a,.int k' b=>if k=k' then .val (.int k (k.wrap (BitVec.ofInt k.bits a &&& BitVec.ofInt k.bits b).toNat)) else .bad
 | .or,.int k a,.int k' b=>if k=k' then .val (.int k (k.wrap (BitVec.ofInt k.bits a ||| BitVec.ofInt k.bits b).toNat)) else .bad
 | .eql,.int k a,.int k' b=>if k=k' then .val (.bool (a == b)) else .bad
 | .neq,.int k a,.int k' b=>if k=k' then .val (.bool (a != b)) else .bad
 | .lss,.int k a,.int k' b=>if k=k' then .val (.bool (decide (a < b))) else .bad
 | .leq,.int k a,.int k' b=>if k=k' then .val (.bool (decide (a <= b))) else .bad
 | .gtr,.int k a,.int k' b=>if k=k' then .val (.bool (decide (a > b))) else .bad
 | .geq,.int k a,.int k' b=>if k=k' then .val (.bool (decide (a >= b))) else .bad
 | .eql,.str a,.str b=>.val (.bool (a == b))
 | .neq,.str a,.str b=>.val (.bool (a != b))
 | .add,.str a,.str b=>.cond (a.length+b.length <= 4294967296) (.val (.str (a++b)))
 | .eql,.bool a,.bool b=>if bt.b=true then .val (.bool (a == b)) else .bad
 | .neq,.bool a,.bool b=>if bt.b=true then .val (.bool (a != b)) else .bad
 | .eql,.agg a,.agg b=>yC .bool (eqR bt.f a b)
 | .neq,.agg a,.agg b=>yC (fun r=>.bool (!r)) (eqR bt.f a b)
 | .eql,.iface _ _,.dq=>if bt.i=true then .val (.bool false) else .bad
 | .neq,.iface _ _,.dq=>if bt.i=true then .val (.bool true) else .bad
 | .eql,.aW,.aW=>if bt.p=true then .val (.bool true) else .bad
 | .eql,.box _ _,.aW=>if bt.p=true then .val (.bool false) else .bad
 | .neq,.aW,.aW=>if bt.p=true then .val (.bool false) else .bad
 | .neq,.box _ _,.aW=>if bt.p=true then .val (.bool true) else .bad
 | .eql,.cQ _,.aW=>if bt.p=true then .val (.bool false) else .bad
 | .neq,.cQ _,.aW=>if bt.p=true then .val (.bool true) else .bad
 | .eql,.aq,.aq=>if bt.s=true then .val (.bool true) else .bad
 | .eql,.vec _ _ _,.aq=>if bt.s=true then .val (.bool false) else .bad
 | .eql,.ms _ _ _ _ _,.aq=>if bt.s=true then .val (.bool false) else .bad
 | _,_,_=>.bad
theorem X1 (P:Program) (op:BinOp) (t:TypeId) (lit:Bool) (x y:AV):aw op (aaR P t) lit x y=Hu P op t lit x y:=by
 unfold aw Hu MA
 cases op <;> cases x <;> cases y <;> rfl
def xr (P:Program) (t:TypeId):Option (List AV):=match fJ P t with
 | some (e,_)=>qt P e
 | none=>none
def Wd (P:Program) (t:TypeId):Option (Bool × Nat):=match vO P t with
 | some (_,e,_)=>oY P e
 | none=>none
def TB (P:Program) (t:TypeId):Option AV:=match rz P t with
 | some (_,e)=>zeroV P e
 | none=>none
def TF (gt:Option (TypeId × Nat × List AV)) (ap:Option (TypeId × Nat)) (mu:Bool) (s y:AV) (U:St):aC :=
 match gt with
 | some q=>GW q mu s y
 | none=>eR ap mu s y U
def MH (C:cS) (mu:Bool) (c:Call) (ρ:Env) (U:St):aC :=
 match c.callee,c.argTypes.toList,c.args.toList with
 | .value (.func f),_,args=>if fw C.P f=true then .enter f (args.map (ρ.ev C)) else .bad
 | .value f,_,args=>jk C.P (ρ.ev C f) (args.map (ρ.ev C))
 | .builtin .len,[t],[x]=>cE (NC C.P t) (ρ.ev C x)
 | .builtin .append,[t,u],[s,y]=>TF (CT C.P t u) (Mw C.P t u) mu (ρ.ev C s) (ρ.ev C y) U
 | .builtin .cap,[t],[x]=>HC (fJ C.P t) (ρ.ev C x)
 | .builtin .min,_,[x,y]=>zJ (ρ.ev C x) (ρ.ev C y)
 | .builtin .max,_,[x,y]=>Cc (ρ.ev C x) (ρ.ev C y)
 | .builtin .clear,[t],[x]=>CK (fJ C.P t) (xr C.P t) (ρ.ev C x) U
 | _,_,_=>.bad
def tE (C:cS) (mu:Bool) (o:Op) (ρ:Env) (U:St):aC :=
 match o with
 | .move x | .assign x=>.val (ρ.ev C x)
 | .pick c a b=>bM (ρ.ev C c) (ρ.ev C a) (ρ.ev C b)
 | .alloc t=>Zr t (qt C.P t)
 | .box _ x=>fZ (ρ.ev C x)
 | .build t parts=>ek (AW C.P t) (qt C.P t) (vO C.P t) (nv C ρ parts)
 | .buildSlice t n parts=>ar (fJ C.P t) (xr C.P t) n mu (nv C ρ parts)
 | .insert t m k v | .mapUpdate t m k v=>dW (rz C.P t) (ρ.ev C m) (ρ.ev C k) (ρ.ev C v) U
 | .load t a=>ak (oY C.P t) (ρ.ev C a) U
 | .store t a v=>aI (oY C.P t) (ρ.ev C a) (ρ.ev C v) U
 | .nilCheck x=>aV (ρ.ev C x)
 | .binOp op t x y _=>aw op (aaR C.P t) (isLit x || isLit y) (ρ.ev C x) (ρ.ev C y)
 | .unOp op _ x=>ly op (ρ.ev C x)
 | .convert s d x=>GV (Nu C.P d) (C.P.underlying s).isSome (oC C.P d && oC C.P s) (xS C.P d && oC C.P s) (ρ.ev C x)
 | .makeInterface t x=>x9 (zM C.P t) t (ρ.ev C x)
 | .makeFunc fn first cap=>.val (.func fn (first.toList.map (ρ.ev C)) (cap.toList.map (ρ.ev C)))
 | .makeMap _ none=>.vu
 | .slice t x lo hi none=>fI (oC C.P t) (fJ C.P t) (ρ.ev C x) (lo.map (ρ.ev C)) (hi.map (ρ.ev C))
 | .fieldAddr s x f=>af (zk C.P s f) (ρ.ev C x)
 | .field s x f=>u4 (AA C.P s f) (ρ.ev C x)
 | .indexAddr t x i=>aO (fJ C.P t) (vO C.P t) (ρ.ev C x) (ρ.ev C i)
 | .index t x i=>hX (oC C.P t) (vO C.P t) (Wd C.P t) (ρ.ev C x) (ρ.ev C i)
 | .lookup t m k ok=>eB (rz C.P t) (TB C.P t) (ρ.ev C m) (ρ.ev C k) ok U
 | .extract t i=>aX (ρ.ev C t) i
 | .panic x=>uG (ρ.ev C x)
 | .range t m=>uJ (rz C.P t) (ρ.ev C m)
 | .typeAssert x _ t ok=>wj (Ar C.P t) (ρ.ev C x) t ok
 | .makeSlice t l c=>Dl (fJ C.P t) (xr C.P t) mu (ρ.ev C l) (ρ.ev C c)
 | .next i false=>sL (ρ.ev C i) U
 | .entry i=>nu (ρ.ev C i) U
 | .call c=>MH C mu c ρ U
 | _=>.bad
theorem TN (C:cS) (mu:Bool) (c:Call) (ρ:Env) (U:St):MH C mu c ρ U=Ax C mu c ρ U:=by
 unfold MH Ax
 obtain ⟨callee,⟨args⟩,⟨XG⟩⟩:=c
 cases callee with
 | value f =>
   cases f <;> simp only [jk,Env.ev,jY,gD]
 | invoke r m=>rfl
 | builtin b =>
   cases b
   case clear =>
    dsimp only
    rcases XG with _ | ⟨t,_ | ⟨u,_ | _⟩⟩ <;> rcases args with _ | ⟨x,_ | ⟨y,_ | _⟩⟩ <;> try rfl
    simp only [CK,ze,xr]
    generalize ρ.ev C x=y
    cases h:fJ C.P t with
    | none=>rfl
    | some es=>(cases es; cases y <;> rfl)
   all_goals first | rfl | (dsimp only; rcases XG with _ | ⟨t,_ | ⟨u,_ | _⟩⟩ <;> rcases args with _ | ⟨x,_ | ⟨y,_ | _⟩⟩ <;> rfl)
theorem qg (C:cS) (mu:Bool) (o:Op) (ρ:Env) (U:St):tE C mu o ρ U=kn C mu o ρ U:=by
 cases o with
 | binOp op t x y yt=>exact X1 _ _ _ _ _ _
 | call c=>exact TN _ _ _ _ _
 | buildSlice t n parts =>
   simp only [tE,kn,ar,sG,xr]
   cases h:fJ C.P t with
   | none=>rfl
   | some es=>(cases es; rfl)
 | index t x i =>
   simp only [tE,kn,hX,C9,Wd]
   generalize ρ.ev C x=y
   generalize ρ.ev C i=z
   cases h:vO C.P t with
   | none=>cases y <;> rfl
   | some es=>(cases es; cases y <;> cases z <;> rfl)
 | lookup t m k ok =>
   simp only [tE,kn,eB,wY,TB]
   generalize kH U (ρ.ev C m)=y
   cases h:rz C.P t with
   | none=>rfl
   | some es=>(cases es; cases y <;> rfl)
 | makeSlice t l c =>
   simp only [tE,kn,Dl,tP,xr]
   generalize ρ.ev C l=y
   generalize ρ.ev C c=z
   cases h:fJ C.P t with
   | none=>rfl
   | some es=>(cases es; cases y <;> cases z <;> rfl)
 | convert s d x =>
   simp only [tE,kn,GV,GU,bS]
   rfl
 | makeMap t r=>cases r <;> rfl
 | slice t x lo hi m=>cases m <;> rfl
 | next i b=>cases b <;> rfl
 | _=>rfl
end Go.Rip
namespace Go.Rip
open Go.RowKit
def Fn:Nat->Type
 | 0=>St->Prop
 | n+1=>AV->Fn n
namespace Fn
def app:(n:Nat)->Fn n->List AV->St->Prop
 | 0,f,_,U=>f U
 | n+1,f,x::xs,U=>app n (f x) xs U
 | n+1,f,[],U=>app n (f .any) [] U
def lam:(n:Nat)->(List AV->St->Prop)->Fn n
 | 0,F=>fun U=>F [] U
 | n+1,F=>fun x=>lam n (fun xs U=>F (x::xs) U)
theorem qG:∀ (n:Nat) (F:List AV->St->Prop) (xs:List AV) (U:St),xs.length=n->app n (lam n F) xs U=F xs U
 | 0,F,[],U,_=>rfl
 | n+1,F,x::xs,U,h=>qG n (fun xs U=>F (x::xs) U) xs U (by simpa using h)
 | 0,F,_::_,U,h=>by simp at h
 | n+1,F,[],U,h=>by simp at h
def imp:(n:Nat)->Fn n->Fn n->Prop
 | 0,f,g=>∀ U,f U->g U
 | n+1,f,g=>∀ x,imp n (f x) (g x)
theorem LB:∀ {n:Nat} {f g:Fn n},imp n f g->∀ (xs:List AV) (U:St),xs.length=n->app n f xs U->app n g xs U
 | 0,f,g,h,xs,U,_,hf=>h U hf
 | n+1,f,g,h,x::xs,U,hl,hf=>LB (h x) xs U (by simpa using hl) hf
 | n+1,f,g,h,[],U,hl,hf=>by simp at hl
theorem KW:∀ {n:Nat} {f g:Fn n},(∀ (xs:List AV) (U:St),xs.length=n->app n f xs U->app n g xs U)->imp n f g
 | 0,f,g,h=>fun U hf=>h [] U rfl hf
 | n+1,f,g,h=>fun x=>KW fun xs U hl hf=>h (x::xs) U (by simpa using hl) hf
end Fn
def Di:List Nat->List AV->Nat->AV
 | s::ss,x::xs,t=>cond (Nat.beq t s) x (Di ss xs t)
 | _,_,_=>.any
def Eg (live:List Nat) (vs:List AV):Env:=⟨Di live vs⟩
theorem F2 (f:Nat->AV) (t:Nat):∀ live:List Nat,Di live (live.map f) t=f t\/Di live (live.map f) t=.any
 | []=>.inr rfl
 | s::ss=>by
   simp only [eh,Di]
   cases h:Nat.beq t s with
   | true=>have:=fp h; subst this; exact .inl rfl
   | false=>exact F2 f t ss
theorem Fh (ρ:Env) (live:List Nat) (t:Nat):(Eg live (live.map ρ.get)).get t=ρ.get t\/(Eg live (live.map ρ.get)).get t=.any:=F2 ρ.get t live
section
variable {C:cS} {nt:Nat} {ro:Ro} {U:St} {ρ:Env}
theorem bH.Mq {c:Code} {Q:Ex->Env->St->Prop} {ez:Env} (h:bH C nt ro c Q ez U) (hw:∀ t,ez.get t=ρ.get t\/ez.get t=.any):bH C nt ro c Q ρ U :=
 fun g w a fr h1 h2 h3 h4 h5=>h g w a fr h1 h2 (fun t=>by
  rcases hw t with e | e
  . rw [e]; exact h3 t
  . rw [e]; simp only [ay]) h4 h5
end
structure Qx where
 n:Env->St->Prop
 e:Nat->Env->St->Prop
 r:Env->St->Prop
 p:AV->St->Prop
def Qx.q (Q:Qx):Ex->Env->St->Prop
 | .normal,ρ,U=>Q.n ρ U
 | .exit i,ρ,U=>Q.e i ρ U
 | .ret,ρ,U=>Q.r ρ U
 | .panic x,_,U=>Q.p x U
def adF (ops:Array Oper) (j:Nat):Option Nat:=(ops[j]?).bind (·.dst)
def aL (v:AV) (want:Bool):AV:=match v with
 | .bool b=>.bool (b == want)
 | .aH []=>.bool false
 | _=>.any
def HZ (ops:Array Oper) (ρ:Env) (jw:Nat × Bool):AV:=match adF ops jw.1 with
 | some d=>aL (ρ.get d) jw.2
 | none=>.any
theorem H0 (ops:Array Oper) (ρ:Env) (jw:Nat × Bool):iB ops ρ (some jw)=HZ ops ρ jw:=rfl
def EM (b:Bool) (v:AV):AV:=match b with
 | true=>v
 | false=>.aH []
def fi (C:cS) (b:Bool):aC->(AV->Prop)->Prop
 | .val v,k=>k (EM b v)
 | @aC.cond p _ r,k=>(b=true->p)/\fi C b r k
 | .enter f args,k=>∃ v,(b=true->Pure C f args v)/\k (EM b v)
 | _,k=>b=false/\k (.aH [])
def ao (C:cS) (gv:AV) (r:aC) (k:AV->Prop):Prop:=match gv with
 | .bool b=>fi C b r k
 | _=>False
theorem BE {C:cS}:∀ (r:aC) {k:AV->Prop},fi C true r k->∃ v,r.yv C v/\k v
 | .val v,k,h=>⟨v,rfl,h⟩
 | @aC.cond _ _ r,k,h=>let ⟨v,h1,h2⟩:=BE r h.2; ⟨v,⟨h.1 rfl,h1⟩,h2⟩
 | .enter _ _,k,h=>let ⟨v,h1,h2⟩:=h; ⟨v,h1 rfl,h2⟩
 | .jd _ _ _,_,h=>by cases h.1
 | .new _ _ _,_,h=>by cases h.1
 | .mj _ _,_,h=>by cases h.1
 | .yield _ _,_,h=>by cases h.1
 | .panic _,_,h=>by cases h.1
 | .bad,_,h=>by cases h.1
theorem zX {C:cS}:∀ (r:aC) {k:AV->Prop},fi C false r k->k (.aH [])
 | .val v,k,h=>h
 | @aC.cond _ _ r,k,h=>zX r h.2
 | .enter _ _,k,h=>let ⟨v,h1,h2⟩:=h; h2
 | .jd _ _ _,_,h=>h.2
 | .new _ _ _,_,h=>h.2
 | .mj _ _,_,h=>h.2
 | .yield _ _,_,h=>h.2
 | .panic _,_,h=>h.2
 | .bad,_,h=>h.2
theorem zY {C:cS} {gv:AV} {r:aC} {k:AV->Prop} (h:ao C gv r k):(gv=.bool true/\∃ v,r.yv C v/\k v)\/(gv=.bool false/\k (.aH [])):=by
 cases gv <;> simp only [ao] at h
 rename_i b
 cases b
 . exact .inr ⟨rfl,zX r h⟩
 . exact .inl ⟨rfl,BE r h⟩
def abR (pf:List Nat) (o:Op):Bool:=match o with
 | .call c=>match c.callee with
   | .value (.func f)=>pf.any fun g=>Nat.beq g f
   | .value _=>false
   | _=>quiet o
 | o=>quiet o
def Ep (C:cS) (o:Op) (ρ:Env):Option AV:=match o with
 | .move x | .assign x=>some (ρ.ev C x)
 | .makeFunc fn first cap=>some (.func fn (first.toList.map (ρ.ev C)) (cap.toList.map (ρ.ev C)))
 | _=>none
theorem AF {C:cS} {o:Op} {ρ:Env} {v:AV} (h:Ep C o ρ=some v) (mu:Bool) (U:St):tE C mu o ρ U=.val v:=by
 unfold Ep at h
 split at h
 . cases h; rfl
 . cases h; rfl
 . cases h; rfl
 . cases h
def vZ (C:cS) (mu pf:List Nat) (ops:Array Oper):List Oper->Env->St->(Env->St->Prop)->(AV->St->Prop)->Prop
 | [],ρ,U,K,_=>K ρ U
 | o::rest,ρ,U,K,Kp=>match o.guard with
   | none=>match Ep C o.op ρ with
     | some v=>vZ C mu pf ops rest (ρ.eN o.dst v) U K Kp
     | none=>(tE C (oV mu o) o.op ρ U).wp C U (fun v U=>vZ C mu pf ops rest (ρ.eN o.dst v) U K Kp) Kp
   | some jw=>match abR pf o.op with
     | true=>ao C (HZ ops ρ jw) (tE C (oV mu o) o.op ρ U) (fun v=>vZ C mu pf ops rest (ρ.eN o.dst v) U K Kp)
     | false=>av (HZ ops ρ jw) ((tE C (oV mu o) o.op ρ U).wp C U (fun v U=>vZ C mu pf ops rest (ρ.eN o.dst v) U K Kp) Kp)
       (vZ C mu pf ops rest (ρ.eN o.dst (.aH [])) U K Kp)
theorem xd {C:cS} {mu pf:List Nat} {ops:Array Oper} {K:Env->St->Prop} {Kp:AV->St->Prop}:∀ (l:List Oper) (ρ:Env) (U:St),
 vZ C mu pf ops l ρ U K Kp->pT C mu ops l ρ U K Kp
 | [],_,_,h=>h
 | o::rest,ρ,U,h=>by
   have step:∀ {r:aC},r.wp C U (fun v U=>vZ C mu pf ops rest (ρ.eN o.dst v) U K Kp) Kp ->
    r.wp C U (fun v ad=>pT C mu ops rest (ρ.eN o.dst v) ad K Kp) Kp:=fun hr=>aC.wp_mono (fun v ad hv=>xd rest _ _ hv) _ hr
   simp only [vZ] at h
   simp only [pT]
   show av (iB ops ρ o.guard) ((kn C (oV mu o) o.op ρ U).wp C U (fun v ad=>pT C mu ops rest (ρ.eN o.dst v) ad K Kp) Kp) (pT C mu ops rest (ρ.eN o.dst (.aH [])) U K Kp)
   rw [<- qg]
   cases hg:o.guard with
   | none =>
     rw [hg] at h
     simp only at h
     refine ⟨fun _=>?_,fun hf=>(by cases hf)⟩
     split at h
     . rename_i v hv
       rw [AF hv]
       exact xd rest _ _ h
     . exact step h
   | some jw =>
     rw [hg] at h
     simp only at h
     rw [H0]
     split at h
     . rcases zY h with ⟨hb,v,hv,hk⟩ | ⟨hb,hk⟩
       . rw [hb]
         refine ⟨fun _=>?_,fun hf=>(by cases hf)⟩
         exact aC.Ow _ hv (xd rest _ _ hk)
       . rw [hb]
         exact ⟨fun hf=>(by cases hf),fun _=>xd rest _ _ hk⟩
     . cases hv:HZ ops ρ jw <;> rw [hv] at h <;> simp only [av] at h ⊢
       exact ⟨fun e=>step (h.1 e),fun e=>xd rest _ _ (h.2 e)⟩
def aB (C:cS):aC->(AV->Prop)->Prop
 | .val v,k=>k v
 | @aC.cond p _ r,k=>p/\aB C r k
 | .enter f args,k=>∃ v,Pure C f args v/\k v
 | _,_=>False
theorem Gj {C:cS}:∀ (r:aC) {k:AV->Prop},aB C r k->∃ v,r.yv C v/\k v
 | .val v,k,h=>⟨v,rfl,h⟩
 | @aC.cond _ _ r,k,h=>let ⟨v,h1,h2⟩:=Gj r h.2; ⟨v,⟨h.1,h1⟩,h2⟩
 | .enter _ _,k,h=>h
 | .jd _ _ _,_,h=>h.elim
 | .new _ _ _,_,h=>h.elim
 | .mj _ _,_,h=>h.elim
 | .yield _ _,_,h=>h.elim
 | .panic _,_,h=>h.elim
 | .bad,_,h=>h.elim
def CZ (C:cS) (ρ:Env) (o:Op):List Nat:=o.operands.toList.flatMap fun x=>eM (ρ.ev C x)
def rdW (b:Bool) (P k:Prop):Prop:=match b with
 | true=>P/\k
 | false=>k
def ixW (b:Bool) (P k:Prop):Prop:=match b with
 | true=>k
 | false=>P/\k
theorem Qb {ops:Array Oper} {i:Nat} {I:St->Prop} {U:St} {k:Prop} (h:ixW (sQ ops i) (I U) k):Ix ops I i U/\k:=by
 unfold Ix
 cases ha:sQ ops i <;> rw [ha] at h <;> simp only [ixW] at h
 . exact ⟨.inr h.1,h.2⟩
 . exact ⟨.inl (by unfold o7; rw [ha]; rfl),h⟩
def zZ (C:cS) (ops:Array Oper) (ρ:Env) (g:Option (Nat × Bool)) (i:Option AV) (r:aC) (k:AV->Prop):Prop:=match g with
 | none=>match i with
   | some v=>k v
   | none=>aB C r k
 | some jw=>ao C (HZ ops ρ jw) r k
def gW (ops:Array Oper) (ρ:Env) (g:Option (Nat × Bool)) (A B:Prop):Prop:=match g with
 | none=>A
 | some jw=>av (HZ ops ρ jw) A B
def pG (C:cS) (mu:List Nat) (ops:Array Oper) (au:St) (K:Env->St->Prop) (Kp:AV->St->Prop) (B:List Nat):List (Bool × Nat)->Env->St->Prop
 | [],ρ,U=>K ρ U
 | (true,i)::r,ρ,U=>match ops[i]? with
   | none=>False
   | some o=>match quiet o.op with
     | false=>False
     | true=>rdW (pI o.op) (∀ b ∈ CZ C ρ o.op,b ∈ B) (zZ C ops ρ o.guard (Ep C o.op ρ) (tE C (oV mu o) o.op ρ au) fun v=>pG C mu ops au K Kp B r (ρ.eN o.dst v) U)
 | (false,i)::r,ρ,U=>match ops[i]? with
   | none=>False
   | some o=>gW ops ρ o.guard ((tE C (oV mu o) o.op ρ U).wp C U (fun v U=>ixW (sQ ops i) (da B au U) (pG C mu ops au K Kp B r (ρ.eN o.dst v) U)) Kp)
      (pG C mu ops au K Kp B r (ρ.eN o.dst (.aH [])) U)
def G6 (C:cS) (mu:List Nat) (ops:Array Oper) (au:St) (K:Env->St->Prop) (Kp:AV->St->Prop):List (Bool × Nat)->List Nat->Env->St->Prop
 | [],_,ρ,U=>K ρ U
 | (true,i)::r,B,ρ,U=>match ops[i]? with
   | none=>False
   | some o=>match quiet o.op with
     | false=>False
     | true=>zZ C ops ρ o.guard (Ep C o.op ρ) (tE C (oV mu o) o.op ρ au) fun v=>G6 C mu ops au K Kp r (match pI o.op with | true=>CZ C ρ o.op++B | false=>B) (ρ.eN o.dst v) U
 | (false,i)::r,B,ρ,U=>pG C mu ops au K Kp B ((false,i)::r) ρ U
def yf (C:cS) (mu:List Nat) (ops:Array Oper) (au:St) (K:Env->St->Prop) (Kp:AV->St->Prop):List (Bool × Nat)->Env->St->Prop
 | [],ρ,U=>K ρ U
 | (true,i)::r,ρ,U=>match ops[i]? with
   | none=>False
   | some o=>match quiet o.op with
     | false=>False
     | true=>zZ C ops ρ o.guard (Ep C o.op ρ) (tE C (oV mu o) o.op ρ au) fun v=>yf C mu ops au K Kp r (ρ.eN o.dst v) U
 | (false,i)::r,ρ,U=>match o7 ops i,ops[i]? with
   | true,some o=>gW ops ρ o.guard ((tE C (oV mu o) o.op ρ U).wp C U (fun v U=>yf C mu ops au K Kp r (ρ.eN o.dst v) U) Kp) (yf C mu ops au K Kp r (ρ.eN o.dst (.aH [])) U)
   | _,_=>False
section
variable {C:cS} {mu:List Nat} {ops:Array Oper} {au:St} {K:Env->St->Prop} {Kp:AV->St->Prop}
theorem B2 {ρ:Env} {g:Option (Nat × Bool)} {A B:Prop} (h:gW ops ρ g A B):(iB ops ρ g=.bool true/\A)\/(iB ops ρ g=.bool false/\B):=by
 unfold gW at h
 cases g with
 | none=>exact .inl ⟨rfl,h⟩
 | some jw =>
   simp only at h
   rw [H0]
   cases hv:HZ ops ρ jw <;> rw [hv] at h <;> simp only [av] at h
   rename_i b
   cases b
   . exact .inr ⟨rfl,h.2 rfl⟩
   . exact .inl ⟨rfl,h.1 rfl⟩
theorem uI {ρ:Env} {g:Option (Nat × Bool)} {i:Option AV} {r:aC} {k:AV->Prop} (hi:∀ v,i=some v->r=.val v) (h:zZ C ops ρ g i r k):(iB ops ρ g=.bool true/\∃ v,r.yv C v/\k v)\/(iB ops ρ g=.bool false/\k (.aH [])):=by
 unfold zZ at h
 cases g with
 | none =>
   cases i with
   | none=>exact .inl ⟨rfl,Gj r h⟩
   | some v=>rw [hi v rfl]; exact .inl ⟨rfl,v,rfl,h⟩
 | some jw=>simp only at h; rw [H0]; exact zY h
theorem xK {ρ:Env} {o:Op} {x:Operand} (hx:x ∈ o.operands.toList) {b:Nat} (hb:b ∈ eM (ρ.ev C x)):b ∈ CZ C ρ o:=List.mem_flatMap.2 ⟨x,hx,hb⟩
theorem qU (B:List Nat):∀ (l:List (Bool × Nat)) (ρ:Env) (U:St),pG C mu ops au K Kp B l ρ U->my C mu ops B au K Kp l ρ U
 | [],_,_,h=>h
 | (true,i)::r,ρ,U,h=>by
   simp only [pG] at h
   split at h
   . exact h.elim
   . rename_i o ho
     split at h
     . exact h.elim
     . rename_i hq
       have key:∀ {P k:Prop},rdW (pI o.op) P k->(pI o.op=true->P)/\k:=fun {P k} h=>by
        cases hr:pI o.op <;> rw [hr] at h <;> simp only [rdW] at h
        . exact ⟨fun h=>(by cases h),h⟩
        . exact ⟨fun _=>h.1,h.2⟩
       obtain ⟨hB,h⟩:=key h
       rcases uI (fun v hv=>AF hv _ _) h with ⟨hg,v,hv,hk⟩ | ⟨hg,hk⟩
       . rw [qg] at hv
         exact ⟨o,v,ho,.inl ⟨hg,hq,fun hr x hx b hb=>hB hr b (xK hx hb),hv⟩,qU B r _ _ hk⟩
       . exact ⟨o,.aH [],ho,.inr ⟨hg,rfl⟩,qU B r _ _ hk⟩
 | (false,i)::r,ρ,U,h=>by
   simp only [pG] at h
   simp only [my,lY]
   split at h
   . exact h.elim
   . rename_i o ho
     rw [ho]
     simp only
     rw [qg] at h
     rcases B2 h with ⟨hg,h⟩ | ⟨hg,h⟩
     . rw [hg]
       exact ⟨fun _=>aC.wp_mono (fun v U hv=>⟨(Qb (I:=da B au) hv).1,qU B r _ _ (Qb (I:=da B au) hv).2⟩) _ h,fun h=>by cases h⟩
     . rw [hg]
       exact ⟨fun h=>(by cases h),fun _=>qU B r _ _ h⟩
theorem EG:∀ (l:List (Bool × Nat)) (B:List Nat) (ρ:Env) (U:St),G6 C mu ops au K Kp l B ρ U->∃ B',(∀ b ∈ B,b ∈ B')/\my C mu ops B' au K Kp l ρ U
 | [],B,_,_,h=>⟨B,fun _ h=>h,h⟩
 | (true,i)::r,B,ρ,U,h=>by
   simp only [G6] at h
   split at h
   . exact h.elim
   . rename_i o ho
     split at h
     . exact h.elim
     . rename_i hq
       rcases uI (fun v hv=>AF hv _ _) h with ⟨hg,v,hv,hk⟩ | ⟨hg,hk⟩
       . rw [qg] at hv
         obtain ⟨B',hB,hA⟩:=EG r _ _ _ hk
         refine ⟨B',fun b hb=>hB b ?_,o,v,ho,.inl ⟨hg,hq,fun hr x hx b hb=>hB b ?_,hv⟩,hA⟩
         . split
           . exact List.mem_append_right _ hb
           . exact hb
         . rw [hr]; exact List.mem_append_left _ (xK hx hb)
       . obtain ⟨B',hB,hA⟩:=EG r _ _ _ hk
         refine ⟨B',fun b hb=>hB b ?_,o,.aH [],ho,.inr ⟨hg,rfl⟩,hA⟩
         split
         . exact List.mem_append_right _ hb
         . exact hb
 | (false,i)::r,B,ρ,U,h=>⟨B,fun _ h=>h,qU B _ _ _ h⟩
end
def G2:List (Bool × Nat)->Bool
 | []=>true
 | (true,_)::r=>G2 r
 | (false,_)::r=>r.isEmpty
theorem EF {C:cS} {mu:List Nat} {ops:Array Oper} {au:St} {K:Env->St->Prop} {Kp:AV->St->Prop}:∀ (l:List (Bool × Nat)) (B:List Nat) (ρ:Env) (U:St),G2 l=true->yf C mu ops au K Kp l ρ U->∃ B',(∀ b ∈ B,b ∈ B')/\my C mu ops B' au K Kp l ρ U
 | [],B,_,_,_,h=>⟨B,fun _ h=>h,h⟩
 | (true,i)::r,B,ρ,U,hl,h=>by
   simp only [yf] at h
   split at h
   . exact h.elim
   . rename_i o ho
     split at h
     . exact h.elim
     . rename_i hq
       rcases uI (fun v hv=>AF hv _ _) h with ⟨hg,v,hv,hk⟩ | ⟨hg,hk⟩
       . rw [qg] at hv
         obtain ⟨B',hB,hA⟩:=EF r (CZ C ρ o.op++B) _ _ hl hk
         exact ⟨B',fun b hb=>hB b (List.mem_append_right _ hb),o,v,ho,.inl ⟨hg,hq,fun hr x hx b hb=>hB b (List.mem_append_left _ (xK hx hb)),hv⟩,hA⟩
       . obtain ⟨B',hB,hA⟩:=EF r B _ _ hl hk
         exact ⟨B',hB,o,.aH [],ho,.inr ⟨hg,rfl⟩,hA⟩
 | (false,i)::r,B,ρ,U,hl,h=>by
   obtain rfl:r=[]:=by simpa [G2] using hl
   refine ⟨B,fun _ h=>h,?_⟩
   simp only [yf] at h
   simp only [my,lY]
   split at h
   . rename_i o Lr ho
     rw [ho]
     simp only
     rw [qg] at h
     rcases B2 h with ⟨hg,h⟩ | ⟨hg,h⟩
     . rw [hg]
       exact ⟨fun _=>aC.wp_mono (fun v U hv=>⟨.inl Lr,hv⟩) _ h,fun h=>by cases h⟩
     . rw [hg]
       exact ⟨fun h=>(by cases h),fun _=>h⟩
   . exact h.elim
def zQ (C:cS) (mu:List Nat) (ops:Array Oper) (au:St) (Kp:AV->St->Prop) (B:List Nat) (o:Oper) (K:Env->St->Prop) (ρ:Env) (U:St):Prop :=
 gW ops ρ o.guard ((tE C (oV mu o) o.op ρ U).wp C U (fun v U=>da B au U/\K (ρ.eN o.dst v) U) Kp) (K (ρ.eN o.dst (.aH [])) U)
def Oi (C:cS) (mu:List Nat) (ops:Array Oper) (au:St) (K:Env->St->Prop) (Kp:AV->St->Prop) (B:List Nat) (i j:Nat) (post:List (Bool × Nat)) (ρ:Env) (U:St):Prop:=match ops[i]?,ops[j]? with
 | some oi,some oj=>zQ C mu ops au Kp B oi (fun ρ U=>zQ C mu ops au Kp B oj (fun ρ U=>pG C mu ops au K Kp B post ρ U) ρ U) ρ U /\
    zQ C mu ops au Kp B oj (fun ρ U=>zQ C mu ops au Kp B oi (fun ρ U=>pG C mu ops au K Kp B post ρ U) ρ U) ρ U
 | _,_=>False
def Oh (ops:Array Oper) (pre:List (Bool × Nat)) (i j:Nat) (post:List (Bool × Nat)):Bool :=
 (match pk ops pre (Array.replicate ops.size false) with
   | some l=>(Region.ready .any ops l == [i,j]) && ((Region.ready .any ops (l.setIfInBounds i true) == [j]) && ((Region.ready .any ops (l.setIfInBounds j true) == [i]) && (!Nat.beq i j && ja ops post ((l.setIfInBounds i true).setIfInBounds j true))))
   | none=>false) && Nat.beq (pre.length+(post.length+2)) ops.size
section
variable {C:cS} {mu:List Nat} {ops:Array Oper} {au:St} {K:Env->St->Prop} {Kp:AV->St->Prop} {B:List Nat}
theorem Gc {i:Nat} {o:Oper} {K0 K1:Env->St->Prop} {I':St->Prop} (ho:ops[i]?=some o) (hI:∀ U,da B au U->I' U) (hk:∀ ρ U,da B au U->K0 ρ U->K1 ρ U) {ρ:Env} {U:St} (hs:da B au U) (h:zQ C mu ops au Kp B o K0 ρ U):lY C mu ops I' i K1 Kp ρ U:=by
 unfold lY
 rw [ho]
 dsimp only
 unfold zQ at h
 rw [qg] at h
 rcases B2 h with ⟨hg,h⟩ | ⟨hg,h⟩
 . rw [hg]
   exact ⟨fun _=>aC.wp_mono (fun v U hv=>⟨hI _ hv.1,hk _ _ hv.1 hv.2⟩) _ h,fun h=>by cases h⟩
 . rw [hg]
   exact ⟨fun h=>(by cases h),fun _=>hk _ _ hs h⟩
theorem Zg {i j:Nat} {post:List (Bool × Nat)} {rj:Array Bool} (h1:Region.ready .any ops rj=[i,j]) (h2:Region.ready .any ops (rj.setIfInBounds i true)=[j]) (h3:Region.ready .any ops (rj.setIfInBounds j true)=[i]) (fR:i ≠ j)
 (h4:ja ops post ((rj.setIfInBounds i true).setIfInBounds j true)=true) {ρ:Env} {U:St} (hD:Dn ops rj) (hI:da B au U) (h:Oi C mu ops au K Kp B i j post ρ U):nj C mu ops (da B au) K Kp (post.length+2) rj ρ U:=by
 unfold Oi at h
 split at h
 . rename_i oi oj WH ph
   have key:∀ (a b:Nat) (oa ob:Oper),ops[a]?=some oa->ops[b]?=some ob->a ∈ Region.ready .any ops rj->Region.ready .any ops (rj.setIfInBounds a true)=[b]->ja ops post ((rj.setIfInBounds a true).setIfInBounds b true)=true ->
    zQ C mu ops au Kp B oa (fun ρ U=>zQ C mu ops au Kp B ob (fun ρ U=>pG C mu ops au K Kp B post ρ U) ρ U) ρ U ->
    lY C mu ops (Ix ops (da B au) a) a (nj C mu ops (da B au) K Kp (post.length+1) (rj.setIfInBounds a true)) Kp ρ U:=by
    intro a b oa ob hoa hob hra Lu nx hw
    refine Gc hoa (fun _ h=>.inr h) (fun ρ1 aR zA hw1=>?_) hI hw
    refine ⟨fun h0=>(by rw [Lu] at h0; cases h0),fun c hc=>?_⟩
    have Ll:=hc
    rw [Lu,jX] at hc
    subst hc
    exact Gc hob (fun _ h=>.inr h) (fun rR bh rU Lx=>s0 post _ rR bh nx ((hD.set hra).set Ll) (.inr rU) (qU B _ _ _ Lx)) zA hw1
   refine ⟨fun h0=>(by rw [h1] at h0; cases h0),fun c hc=>?_⟩
   have Ll:=hc
   rw [h1] at hc
   simp only [cJ,List.not_mem_nil,or_false] at hc
   rcases hc with rfl | rfl
   . exact key _ _ _ _ WH ph Ll h2 h4 h.1
   . exact key _ _ _ _ ph WH Ll h3 (by rw [Array.setIfInBounds_comm _ _ fR.symm]; exact h4) h.2
 . exact h.elim
theorem tJ {I:St->Prop} {Kp yL:AV->St->Prop} (hp:∀ v U,Kp v U->yL v U):∀ (n:Nat) (listed:Array Bool) (ρ:Env) (U:St),nj C mu ops I K Kp n listed ρ U->nj C mu ops I K yL n listed ρ U
 | 0,_,_,_,h=>h
 | n+1,listed,ρ,U,h=>⟨h.1,fun i hi=>by
   have h2:=h.2 i hi
   unfold lY at h2 ⊢
   split
   . rename_i ho; rw [ho] at h2; exact tJ hp n _ _ _ h2
   . rename_i o ho
     rw [ho] at h2
     dsimp only at h2 ⊢
     cases hg:iB ops ρ o.guard <;> rw [hg] at h2 <;> simp only [av] at h2 ⊢
     exact ⟨fun e=>aC.wp_mono (fun v U hv=>⟨hv.1,tJ hp n _ _ _ hv.2⟩) _ (aC.CB hp _ (h2.1 e)),fun e=>tJ hp n _ _ _ (h2.2 e)⟩⟩
theorem bH.QS {nt id:Nat} {ro:Ro} {Q:Ex->Env->St->Prop} {ρ:Env} {U:St} (pre:List (Bool × Nat)) (i j:Nat) (post:List (Bool × Nat)) (hm:C.P.follows .mixedOrders=true) (cO:lW nt ops=true) (hp:Oh ops pre i j post=true) (Wx:∀ v U,Kp v U->yM Q v U)
 (h:pG C mu ops U (fun ez ad=>Oi C mu ops U (KQ Q) Kp B i j post ez ad) Kp B pre ρ U):bH C nt ro (.region id ops true) Q ρ U:=by
 simp only [Oh,bS] at hp
 obtain ⟨h1,h2⟩:=hp
 have h2:=fp h2
 split at h1
 . rename_i l hl
   simp only [bS,beq_iff_eq,Bool.not_eq_true'] at h1
   obtain ⟨k1,k2,k3,k4,k5⟩:=h1
   have fR:i ≠ j:=fun e=>by subst e; simp at k4
   refine bH.z8 mu (da B U) hm cO (tJ Wx _ _ _ _ ?_)
   have:=ye (fun ez ad hD hI hw=>Zg k1 k2 k3 fR k5 hD hI hw) pre _ ρ U hl (Dn.none _ _) (fun _ _=>rfl) (qU B _ _ _ h)
   rw [h2] at this
   exact this
 . cases h1
end
structure Qr where
 Dm:(St->Prop)->St->Prop
 n:St->Prop
 e:Nat->St->Prop
 r:St->Prop
def tw:Nat->Type
 | 0=>Qr->St->Prop
 | n+1=>AV->tw n
def tw.app:(n:Nat)->tw n->List AV->Qr->St->Prop
 | 0,f,_,q,U=>f q U
 | n+1,f,x::xs,q,U=>tw.app n (f x) xs q U
 | n+1,f,[],q,U=>tw.app n (f .any) [] q U
def tw.lam:(n:Nat)->(List AV->Qr->St->Prop)->tw n
 | 0,F=>fun q U=>F [] q U
 | n+1,F=>fun x=>tw.lam n (fun xs q U=>F (x::xs) q U)
theorem tw.qG:∀ (n:Nat) (F:List AV->Qr->St->Prop) (xs:List AV) (q:Qr) (U:St),xs.length=n->tw.app n (tw.lam n F) xs q U=F xs q U
 | 0,F,[],q,U,_=>rfl
 | n+1,F,x::xs,q,U,h=>tw.qG n (fun xs U=>F (x::xs) U) xs q U (by simpa using h)
 | 0,F,_::_,q,U,h=>by simp at h
 | n+1,F,[],q,U,h=>by simp at h
def fL.st (L:fL) (s:LoopState) (p:Option Code):fL:={ L with state:=s,gh:=p }
def afW (o:Nat) (k:St->Prop) (U:St):Prop:=∃ L,U.loop o=some L/\L.state=.ready/\k (U.set o (.loop { L with state:=.busy }))
def afZ (o:Nat) (R:cY->St->Prop):Qr where
 Dm:=afW o
 n:=fun U=>∃ L,U.loop o=some L/\R (.ret (.bool true)) (U.set o (.loop { L with state:=.ready,gh:=none }))
 e:=fun id U=>∃ L,U.loop o=some L/\R (.ret (.bool false)) (U.set o (.loop { L with state:=.done,gh:=some (.exit id) }))
 r:=fun U=>∃ L,U.loop o=some L/\R (.ret (.bool false)) (U.set o (.loop { L with state:=.done,gh:=some .ret }))
def Jv (o:Nat) (Kn:St->Prop) (Ke:Nat->St->Prop) (Kr:St->Prop) (Kp:AV->St->Prop):cY->St->Prop
 | .ret _,ad=>∃ L,ad.loop o=some L/\L.state ≠ .busy/\(match L.gh with
   | none=>Kn (ad.del o)
   | some .ret=>Kr (ad.del o)
   | some (.exit id)=>Ke id (ad.del o)
   | _=>False)
 | .panic x,ad=>Kp x ad
def rF (C:cS) (np:Nat) (fv:AV) (U:St) (B:tw np) (Kn:St->Prop) (Ke:Nat->St->Prop) (Kr:St->Prop) (Kp:AV->St->Prop):Prop :=
 match fv with
 | .func (.func kP) first cap=>fw C.P kP=true/\∀ (o:Nat) (L:fL),U.dA o->L.state=.ready->L.gh=none ->
   (∀ (args:List AV) (aR:St) (R:cY->St->Prop) (L1:fL),args.length=np->aR.loop o=some L1->L1.st .ready none=L->tw.app np B args (afZ o R) aR->ni C o args aR R) ->
   ae C kP (first++[.rZ o]++cap) (U.new o (.loop L)) (Jv o Kn Ke Kr Kp)
 | _=>False
def HP (b:Bool) (A B:Prop):Prop:=match b with
 | true=>A
 | false=>B
def jL (n:Nat) (J:Fn n) (B:Fn n->Prop):Prop:=∀ j:Fn n,Fn.imp n J j->B j
def fy (n:Nat) (init:List AV) (U:St) (B:Fn n->Fn n):Prop :=
 ∃ I:Nat->Fn n,(∃ m,Fn.app n (I m) init U)/\∀ m,Fn.imp n (I m) (B (Fn.lam n fun vs U=>∃ m',m' < m/\Fn.app n (I m') vs U))
inductive An where
 | z
 | sq (live:Option (List Nat)) (a b:An)
 | cd (a b:An)
 | bk (a:An)
 | lp (live:List Nat) (a:An)
 | rg (mu pf:List Nat) (dt:Option Pl)
 | rb (mu:List Nat) (dt:Pl)
 | rl (mu:List Nat) (dt:Pl)
 | r2 (mu:List Nat) (pre:List (Bool × Nat)) (i j:Nat) (post:List (Bool × Nat))
 | rf (a b:An)
def oI (C:cS):Code->An->Qx->Env->St->Prop
 | .skip,_,Q,ρ,U=>Q.n ρ U
 | .exit i,_,Q,ρ,U=>Q.e i ρ U
 | .ret,_,Q,ρ,U=>Q.r ρ U
 | .seq a b,.sq none x y,Q,ρ,U=>oI C a x { Q with n:=fun ρ U=>oI C b y Q ρ U } ρ U
 | .seq a b,.sq (some live) x y,Q,ρ,U=>jL live.length (Fn.lam live.length fun vs U=>oI C b y Q (Eg live vs) U)
    fun j=>oI C a x { Q with n:=fun ρ U=>Fn.app live.length j (live.map ρ.get) U } ρ U
 | .cond c a b,.cd x y,Q,ρ,U=>av (ρ.ev C c) (oI C a x Q ρ U) (oI C b y Q ρ U)
 | .block i a,.bk x,Q,ρ,U=>oI C a x { Q with e:=fun k ρ U=>HP (Nat.beq k i) (Q.n ρ U) (Q.e k ρ U) } ρ U
 | .loop a,.lp live x,Q,ρ,U=>fy live.length (live.map ρ.get) U fun lp=>Fn.lam live.length fun vs U =>
    oI C a x { Q with n:=fun ρ U=>Fn.app live.length lp (live.map ρ.get) U } (Eg live vs) U
 | .region _ ops false,.rg mu pf none,Q,ρ,U=>vZ C mu pf ops ops.toList ρ U Q.n Q.p
 | .region _ ops true,.rg mu pf (some dt),Q,ρ,U=>G6 C mu ops U Q.n Q.p dt.steps [] ρ U
 | .region _ ops true,.rb mu dt,Q,ρ,U=>∃ B:List Nat,pG C mu ops U Q.n Q.p B dt.steps ρ U
 | .region _ ops true,.rl mu dt,Q,ρ,U=>yf C mu ops U Q.n Q.p dt.steps ρ U
 | .region _ ops true,.r2 mu pre i j post,Q,ρ,U=>∃ B:List Nat,pG C mu ops U (fun ez ad=>Oi C mu ops U Q.n Q.p B i j post ez ad) Q.p B pre ρ U
 | .rangeFunc f ps a b,.rf x y,Q,ρ,U=>rF C ps.size (ρ.ev C f) U (tw.lam ps.size fun args qr U=>oI C a x
    { n:=fun ρ U=>qr.Dm (fun U=>oI C b y { n:=fun _ U=>qr.n U,e:=fun i _ U=>qr.e i U,r:=fun _ U=>qr.r U,p:=fun _ _=>False } ρ U) U,e:=fun _ _ _=>False,r:=fun _ _=>False,p:=fun _ _=>False }
    ⟨yk ρ.get ps.toList args⟩ U) (fun U=>Q.n ρ U) (fun i U=>Q.e i ρ U) (fun U=>Q.r ρ U) (fun x U=>Q.p x U)
 | _,_,_,_,_=>False
def mX (nt:Nat):Bool->Code->An->Bool
 | _,.skip,_=>true
 | _,.exit _,_=>true
 | _,.ret,_=>true
 | top,.seq a b,.sq _ x y=>mX nt top a x && mX nt top b y
 | top,.cond _ a b,.cd x y=>mX nt top a x && mX nt top b y
 | top,.block _ a,.bk x=>mX nt top a x
 | top,.loop a,.lp _ x=>mX nt top a x
 | _,.region _ ops false,.rg _ _ none=>lW nt ops
 | _,.region _ ops true,.rg _ _ (some dt)=>lW nt ops && Jm ops dt
 | _,.region _ ops true,.rb _ dt=>lW nt ops && Jm ops dt
 | _,.region _ ops true,.rl _ dt=>lW nt ops && (Jm ops dt && G2 dt.steps)
 | _,.region _ ops true,.r2 _ pre i j post=>lW nt ops && Oh ops pre i j post
 | top,.rangeFunc _ ps a b,.rf x y=>top && ps.toList.all (fun t=>Nat.blt t nt) && mX nt false a x && mX nt false b y
 | _,_,_=>false
theorem Ao {C:cS} {nt:Nat} (hm:C.P.follows .mixedOrders=true):∀ (c:Code) (an:An) (top:Bool) (ro:Ro) (Q:Qx) (ρ:Env) (U:St),mX nt top c an=true->(top=true->ro=.fn) ->
 oI C c an Q ρ U->bH C nt ro c Q.q ρ U:=by
 intro c
 induction c with
 | skip=>intro an top ro Q ρ U cO ht h; exact bH.skip h
 | exit i=>intro an top ro Q ρ U cO ht h; exact bH.exit h
 | ret=>intro an top ro Q ρ U cO ht h; exact bH.ret h
 | seq a b wR Lz =>
   intro an top ro Q ρ U cO ht h
   cases an <;> simp only [mX,bQ,bS] at cO
   rename_i live x y
   refine bH.seq ?_
   cases live with
   | none =>
     simp only [oI] at h
     refine (wR x top ro _ ρ U cO.1 ht h).mono fun e ρ U he=>?_
     cases e <;> first | exact Lz y top ro Q ρ U cO.2 ht he | exact he
   | some live =>
     simp only [oI] at h
     have:=h (Fn.lam live.length fun vs U=>bH C nt ro b Q.q (Eg live vs) U) (Fn.KW fun xs U hl hx=>by
      rw [Fn.qG _ _ _ _ hl] at hx ⊢
      exact Lz y top ro Q _ _ cO.2 ht hx)
     refine (wR x top ro _ ρ U cO.1 ht this).mono fun e ρ U he=>?_
     cases e with
     | normal =>
       have mV:Fn.app live.length (Fn.lam live.length fun vs U=>bH C nt ro b Q.q (Eg live vs) U) (live.map ρ.get) U:=he
       rw [Fn.qG _ _ _ _ (by simp)] at mV
       exact bH.Mq mV (Fh ρ live)
     | exit i=>exact he
     | ret=>exact he
     | panic x=>exact he
 | cond c a b wR Lz =>
   intro an top ro Q ρ U cO ht h
   cases an <;> simp only [mX,bQ,bS] at cO
   rename_i x y
   simp only [oI] at h
   cases hc:ρ.ev C c <;> rw [hc] at h <;> simp only [av] at h
   exact bH.cond hc (fun e=>wR x top ro Q ρ U cO.1 ht (h.1 e)) (fun e=>Lz y top ro Q ρ U cO.2 ht (h.2 e))
 | block i a wR =>
   intro an top ro Q ρ U cO ht h
   cases an <;> simp only [mX,bQ] at cO
   rename_i x
   simp only [oI] at h
   refine bH.block ((wR x top ro _ ρ U cO ht h).mono fun e ρ U he=>?_)
   cases e with
   | exit k =>
     have mV:HP (Nat.beq k i) (Q.n ρ U) (Q.e k ρ U):=he
     simp only [y9]
     cases hb:Nat.beq k i with
     | true=>rw [hb] at mV; rw [if_pos (fp hb)]; exact mV
     | false=>rw [hb] at mV; rw [if_neg (fun e=>by subst e; simp at hb)]; exact mV
   | normal=>exact he
   | ret=>exact he
   | panic x=>exact he
 | loop a wR =>
   intro an top ro Q ρ U cO ht h
   cases an <;> simp only [mX,bQ] at cO
   rename_i live x
   simp only [oI] at h
   obtain ⟨I,⟨m,h0⟩,hr⟩:=h
   refine bH.loop (fun m ρ U=>Fn.app live.length (I m) (live.map ρ.get) U) (n:=m) h0 fun m ρ U hI=>?_
   have:=Fn.LB (hr m) _ _ (by simp) hI
   rw [Fn.qG _ _ _ _ (by simp)] at this
   refine bH.Mq ((wR x top ro _ _ _ cO ht this).mono fun e ez ad he=>?_) (Fh ρ live)
   cases e with
   | normal =>
     have mV:Fn.app live.length (Fn.lam live.length fun vs U=>∃ m',m' < m/\Fn.app live.length (I m') vs U) (live.map ez.get) ad:=he
     rw [Fn.qG _ _ _ _ (by simp)] at mV
     exact mV
   | exit i=>exact he
   | ret=>exact he
   | panic x=>exact he
 | region id ops draw =>
   intro an top ro Q ρ U cO ht h
   have kp:yM Q.q=fun x U=>∀ ρ:Env,Q.p x U:=rfl
   cases draw with
   | false =>
     cases an with
     | rg mu pf dt =>
       cases dt with
       | none =>
         simp only [mX] at cO
         simp only [oI] at h
         refine bH.region mu cO ?_
         have h2:=xd _ ρ U h
         exact vy (fun _ _ h=>h) (fun v U hv ρ=>hv) _ h2
       | some dt=>simp [mX] at cO
     | _=>simp [mX] at cO
   | true =>
     cases an with
     | rg mu pf dt =>
       cases dt with
       | none=>simp [mX] at cO
       | some dt =>
         simp only [mX,bS] at cO
         simp only [oI] at h
         obtain ⟨B,_,hA⟩:=EG _ _ _ _ h
         refine bH.tR mu B dt.steps hm cO.1 (EE cO.2) ?_
         exact kg (fun _ _ h=>h) (fun v U hv ρ=>hv) _ hA
     | rb mu dt =>
       simp only [mX,bS] at cO
       simp only [oI] at h
       obtain ⟨B,hB⟩:=h
       refine bH.tR mu B dt.steps hm cO.1 (EE cO.2) ?_
       exact kg (fun _ _ h=>h) (fun v U hv ρ=>hv) _ (qU B _ _ _ hB)
     | rl mu dt =>
       simp only [mX,bS] at cO
       simp only [oI] at h
       obtain ⟨B,_,hA⟩:=EF _ [] _ _ cO.2.2 h
       refine bH.tR mu B dt.steps hm cO.1 (EE cO.2.1) ?_
       exact kg (fun _ _ h=>h) (fun v U hv ρ=>hv) _ hA
     | r2 mu pre i j post =>
       simp only [mX,bS] at cO
       simp only [oI] at h
       obtain ⟨B,hB⟩:=h
       exact bH.QS (mu:=mu) (B:=B) pre i j post hm cO.1 cO.2 (fun v U hv ρ=>hv) hB
     | _=>simp [mX] at cO
 | rangeFunc f ps a b wR Lz =>
   intro an top ro Q ρ U cO ht h
   cases an <;> simp only [mX,bQ,bS] at cO
   rename_i x y
   obtain ⟨⟨⟨h1,h2⟩,h3⟩,h4⟩:=cO
   have IB:=ht h1
   subst IB
   simp only [oI,rF] at h
   split at h
   . rename_i kP first cap hf
     obtain ⟨uq,h⟩:=h
     refine bH.rangeFunc 0 hf uq fun o ho=>?_
     refine (h o ⟨ρ.get,nt,ps,a,b,.ready,none,0⟩ ho rfl rfl ?_).mono fun r ad hr=>?_
     . intro args aR R L1 hl jB fV hB
       obtain ⟨r1,r2,r3,r4,r5,r6,r7,r8⟩:=L1
       simp only [fL.st,fL.mk.injEq,true_and] at fV
       obtain ⟨e1,e2,e3,e4,e5,e6⟩:=fV
       subst e1 e2 e3 e4 e5 e6
       rw [tw.qG _ _ _ _ _ hl] at hB
       refine ni.Ji jB (by simpa using hl) (fun t ht=>by
        have:=fe.1 h2 t ht
        exact Nat.le_of_ble_eq_true this) ?_
       refine (wR x false (.round o) _ _ _ h3 (fun h=>by cases h) hB).mono fun e ez ad he=>?_
       cases e with
       | normal =>
         obtain ⟨L,k1,k2,k3⟩:=he
         refine ⟨L,k1,k2,(Lz y false (.round o) _ _ _ h4 (fun h=>by cases h) k3).mono fun e rR bh he=>?_⟩
         cases e with
         | normal=>exact he
         | exit i=>exact he
         | ret=>exact he
         | panic x=>exact he
       | exit i=>exact he
       | ret=>exact he
       | panic x=>exact he
     . cases r with
       | ret v =>
         obtain ⟨L,k1,k2,k3⟩:=hr
         refine ⟨L,k1,k2,?_⟩
         split at k3
         . rename_i hp; rw [hp]; exact k3
         . rename_i hp; rw [hp]; exact k3
         . rename_i hp; rw [hp]; exact k3
         . exact k3.elim
       | panic v=>exact hr
   . exact h.elim
 | scope a wR=>intro an top ro Q ρ U cO; cases an <;> simp [mX] at cO
 | label l=>intro an top ro Q ρ U cO; cases an <;> simp [mX] at cO
 | goto l=>intro an top ro Q ρ U cO; cases an <;> simp [mX] at cO
 | refuse w=>intro an top ro Q ρ U cO; cases an <;> simp [mX] at cO
def bF (vt:Option (Bool × Nat)) (p:AV) (U:St) (k:AV->Prop):Prop:=match ak vt p U with
 | .val v=>k v
 | @aC.cond q _ (.val v)=>q/\k v
 | _=>False
def EI (P:Program) (ρ:Env) (U:St):List ResultVar->(List AV->Prop)->Prop
 | [],k=>k []
 | .tmp t::rs,k=>EI P ρ U rs fun vs=>k (ρ.get t::vs)
 | .cell t ty::rs,k=>bF (oY P ty) (ρ.get t) U fun v=>EI P ρ U rs fun vs=>k (v::vs)
theorem xf {P:Program} {ρ:Env} {U:St}:∀ (l:List ResultVar) (k:List AV->Prop),EI P ρ U l k->we P ρ U l k
 | [],_,h=>h
 | .tmp t::rs,k,h=>xf rs _ h
 | .cell t ty::rs,k,h=>by
   simp only [EI,bF] at h
   simp only [we,AK]
   rw [show vj P ty (ρ.get t) U=ak (oY P ty) (ρ.get t) U from rfl]
   split at h
   . rename_i hl; rw [hl]; exact xf rs _ h
   . rename_i hl; rw [hl]; exact ⟨h.1,xf rs _ h.2⟩
   . exact h.elim
def al (R:cY->St->Prop) (x:AV) (U:St):Prop:=∃ x' ad,oQ x U x' ad/\R (.ret x') ad
def aa (R:cY->St->Prop) (x:AV) (U:St):Prop:=R (.panic x) U
def af7 (P:Program) (fn:Func) (R:cY->St->Prop):Qx where
 n:=fun ρ U=>EI P ρ U fn.results.toList fun vs=>al R (wh vs) U
 e:=fun _ _ _=>False
 r:=fun ρ U=>EI P ρ U fn.results.toList fun vs=>al R (wh vs) U
 p:=aa R
def MC (C:cS) (fn:Func) (an:An) (args:List AV) (R:cY->St->Prop) (U:St):Prop:=match fn.body with
 | some c=>oI C c an (af7 C.P fn R) (Env.km args) U
 | none=>False
def okF (fn:Func) (an:An) (n:Nat):Bool:=match fn.body with
 | some c=>mX fn.ntmps true c an && Nat.ble n fn.ntmps
 | none=>false
theorem ae.YG {C:cS} (hm:C.P.follows .mixedOrders=true) {f:FuncId} {fn:Func} (an:An) {args:List AV} {R:cY->St->Prop} {U:St} (hf:C.P.funcs[f]?=some fn) (cO:okF fn an args.length=true)
 (h:MC C fn an args R U):ae C f args U R:=by
 unfold okF at cO
 unfold MC at h
 split at cO
 . rename_i c hb
   rw [hb] at h
   simp only [bS] at cO
   refine ae.LZ hf hb (Nat.le_of_ble_eq_true cO.2) ?_
   refine (Ao hm c an true .fn _ _ _ cO.1 (fun _=>rfl) h).mono fun e ρ U he=>?_
   cases e with
   | normal=>exact xf _ _ he
   | ret=>exact xf _ _ he
   | panic x=>exact he
   | exit i=>exact he
 . cases cO
theorem al.mk {R:cY->St->Prop} {x:AV} {U:St} (h:R (.ret x) U):al R x U:=⟨x,U,oQ.refl _ _,h⟩
end Go.Rip
namespace Go.Rip
open Go.RowKit
section
variable {C:cS} {U:St} {K:AV->St->Prop} {Kp:AV->St->Prop}
@[simp] theorem aj (v:AV):(aC.val v).wp C U K Kp=K v U:=rfl
@[simp] theorem mF (v:AV) (b:Nat) (x:Live):(aC.jd v b x).wp C U K Kp=K v (U.set b x):=rfl
@[simp] theorem kV (k:NV) (x:Live):(aC.new k none x).wp C U K Kp=∀ b,U.dA b->K (k.at b) (U.new b x):=rfl
@[simp] theorem agH (k:NV) (d:Nat) (x:Live):(aC.new k (some d) x).wp C U K Kp=∀ b,(U.del d).dA b->K (k.at b) ((U.del d).new b x):=rfl
@[simp] theorem lR (f:FuncId) (args:List AV):(aC.enter f args).wp C U K Kp=ae C f args U (ag K Kp):=rfl
@[simp] theorem yH (f:Nat) (args:List AV):(aC.yield f args).wp C U K Kp=ni C f args U (ag K Kp):=rfl
@[simp] theorem Wa (v:AV):(aC.panic v).wp C U K Kp=Kp v U:=rfl
@[simp] theorem wp_cond (p:Prop) [Decidable p] (r:aC):(aC.cond p r).wp C U K Kp=(p/\r.wp C U K Kp):=rfl
@[simp] theorem agJ:aC.bad.wp C U K Kp=False:=rfl
@[simp] theorem agK (p:Prop) [Decidable p] (r s:aC):(if p then r else s).wp C U K Kp=if p then r.wp C U K Kp else s.wp C U K Kp:=by split <;> rfl
@[simp] theorem bE (x:AV):ag K Kp (.ret x) U=K x U:=rfl
@[simp] theorem acT (x:AV):ag K Kp (.panic x) U=Kp x U:=rfl
end
@[simp] theorem acU (b:Bool) (A B:Prop):av (.bool b) A B=((b=true->A)/\(b=false->B)):=rfl
theorem bG (A B:Prop):av (.bool true) A B=A:=by simp [av]
theorem bp (A B:Prop):av (.bool false) A B=B:=by simp [av]
theorem ca (p:Prop) [Decidable p] (A B:Prop):av (.bool (decide p)) A B=((p->A)/\(¬ p->B)):=by simp [av]
@[simp] theorem bj (b w:Bool):aL (.bool b) w=.bool (b == w):=rfl
@[simp] theorem agC (w:Bool):aL (.aH []) w=.bool false:=rfl
@[simp] theorem mA (v:AV):EM true v=v:=rfl
@[simp] theorem abV (v:AV):EM false v=.aH []:=rfl
@[simp] theorem aP (C:cS) (b:Bool) (r:aC) (k:AV->Prop):ao C (.bool b) r k=fi C b r k:=rfl
@[simp] theorem rE (C:cS) (b:Bool) (v:AV) (k:AV->Prop):fi C b (.val v) k=k (EM b v):=rfl
@[simp] theorem acW (C:cS) (b:Bool) (p:Prop) [Decidable p] (r:aC) (k:AV->Prop):fi C b (.cond p r) k=((b=true->p)/\fi C b r k):=rfl
@[simp] theorem abQ (C:cS) (b:Bool) (f:FuncId) (args:List AV) (k:AV->Prop):fi C b (.enter f args) k=∃ v,(b=true->Pure C f args v)/\k (EM b v):=rfl
@[simp] theorem cC (C:cS) (k:AV->Prop):∀ r:aC,(fi C false r k)=k (.aH [])
 | .val v=>rfl
 | @aC.cond _ _ r=>by simp only [fi]; rw [cC C k r]; simp
 | .enter _ _=>by simp [fi]
 | .jd _ _ _=>by simp [fi]
 | .new _ _ _=>by simp [fi]
 | .mj _ _=>by simp [fi]
 | .yield _ _=>by simp [fi]
 | .panic _=>by simp [fi]
 | .bad=>by simp [fi]
@[simp] theorem aJ (C:cS) (v:AV) (k:AV->Prop):aB C (.val v) k=k v:=rfl
@[simp] theorem mQ (C:cS) (p:Prop) [Decidable p] (r:aC) (k:AV->Prop):aB C (.cond p r) k=(p/\aB C r k):=rfl
@[simp] theorem z6 (C:cS) (f:FuncId) (args:List AV) (k:AV->Prop):aB C (.enter f args) k=∃ v,Pure C f args v/\k v:=rfl
theorem vC (C:cS) (k:AV->Prop):∀ r:aC,fi C true r k=aB C r k
 | .val v=>rfl
 | @aC.cond _ _ r=>by simp only [fi,aB,vC C k r]; simp
 | .enter _ _=>by simp [fi,aB]
 | .jd _ _ _=>by simp [fi,aB]
 | .new _ _ _=>by simp [fi,aB]
 | .mj _ _=>by simp [fi,aB]
 | .yield _ _=>by simp [fi,aB]
 | .panic _=>by simp [fi,aB]
 | .bad=>by simp [fi,aB]
@[simp] theorem cI (C:cS) (k:AV->Prop) (r:aC):fi C true r k=aB C r k:=vC C k r
theorem DB (C:cS) (k:AV->Prop) (r:aC) (p:Prop) [Decidable p]:fi C (decide p) r k=((p->aB C r k)/\(¬ p->k (.aH []))):=by
 by_cases h:p <;> simp [h]
theorem BD (C:cS) (k:AV->Prop) (r:aC) (p:Prop) [Decidable p]:fi C (!decide p) r k=((p->k (.aH []))/\(¬ p->aB C r k)):=by
 by_cases h:p <;> simp [h]
@[simp] theorem aM (b:Bool) (x y:AV):bM (.bool b) x y=.val (if b=true then x else y):=rfl
@[simp] theorem ite_bool (b x y:Bool):(if b=true then AV.bool x else AV.bool y)=.bool (if b=true then x else y):=by split <;> rfl
section
variable (bt:BT) (l:Bool) (k:IntKind) (a b:Int) (s t:List UInt8)
@[simp] theorem bu:aw .eql bt l (.int k a) (.int k b)=.val (.bool (decide (a=b))):=by simp only [aw,if_true]; rfl
@[simp] theorem dS:aw .neq bt l (.int k a) (.int k b)=.val (.bool (!decide (a=b))):=by simp only [aw,if_true]; rfl
@[simp] theorem cq:aw .lss bt l (.int k a) (.int k b)=.val (.bool (decide (a < b))):=by simp only [aw,if_true]
@[simp] theorem lq:aw .leq bt l (.int k a) (.int k b)=.val (.bool (decide (a <= b))):=by simp only [aw,if_true]
@[simp] theorem eQ:aw .gtr bt l (.int k a) (.int k b)=.val (.bool (decide (b < a))):=by simp only [aw,if_true,gt_iff_lt]
@[simp] theorem iq:aw .geq bt l (.int k a) (.int k b)=.val (.bool (decide (b <= a))):=by simp only [aw,if_true,ge_iff_le]
@[simp] theorem mI:aw .add bt l (.int k a) (.int k b)=jq k (a+b):=by simp only [aw,if_true]
@[simp] theorem mJ:aw .sub bt l (.int k a) (.int k b)=jq k (a - b):=by simp only [aw,if_true]
@[simp] theorem J6:aw .mul bt l (.int k a) (.int k b)=jq k (a * b):=by simp only [aw,if_true]
@[simp] theorem acR:aw .quo bt l (.int k a) (.int k b)=.cond (b ≠ 0) (jq k (a.tdiv b)):=by simp only [aw,if_true]
@[simp] theorem acS:aw .rem bt l (.int k a) (.int k b)=.cond (b ≠ 0) (.val (.int k (a.tmod b))):=by simp only [aw,if_true]
@[simp] theorem ln:aw .eql bt l (.str s) (.str t)=.val (.bool (decide (s=t))):=by
 show aC.val (.bool (s == t))=_
 rw [show (s == t)=decide (s=t) from pW.2 (by simp)]
@[simp] theorem vP:aw .neq bt l (.str s) (.str t)=.val (.bool (!decide (s=t))):=by
 show aC.val (.bool (s != t))=_
 rw [show (s != t)=!decide (s=t) from pW.2 (by simp)]
@[simp] theorem acO:aw .add bt l (.str s) (.str t)=.cond (s.length+t.length <= 4294967296) (.val (.str (s++t))):=rfl
@[simp] theorem aaM (x y:Bool) (i p:Bool) (f:Option (List FK)) (sl:Bool):aw .eql ⟨true,i,p,f,sl⟩ l (.bool x) (.bool y)=.val (.bool (x == y)):=by simp only [aw,if_true]
@[simp] theorem Hv (x y:Bool) (i p:Bool) (f:Option (List FK)) (sl:Bool):aw .neq ⟨true,i,p,f,sl⟩ l (.bool x) (.bool y)=.val (.bool (x != y)):=by simp only [aw,if_true]
@[simp] theorem acP (x y:List AV) (i p q:Bool) (f:List FK) (sl:Bool):aw .eql ⟨q,i,p,some f,sl⟩ l (.agg x) (.agg y)=yC .bool (pZ f x y):=rfl
@[simp] theorem acQ (x y:List AV) (i p q:Bool) (f:List FK) (sl:Bool):aw .neq ⟨q,i,p,some f,sl⟩ l (.agg x) (.agg y)=yC (fun r=>.bool (!r)) (pZ f x y):=rfl
@[simp] theorem aeY (f:Bool->AV) (r:Bool):yC f (some r)=.val (f r):=rfl
@[simp] theorem eI (x:Bool):ly .not (.bool x)=.val (.bool (!x)):=rfl
@[simp] theorem ij:jq .i64 a=.cond (wm a) (.val (.int .i64 a)):=rfl
@[simp] theorem TG:jq .u8 a=.val (.int .u8 (IntKind.u8.wrap a)):=rfl
end
theorem bK {n:Int} (h1:-9223372036854775808 <= n) (h2:n <= 9223372036854775807):wm n:=⟨h1,h2⟩
section
variable (sz b o:Nat) (p v:AV) (U:St) (L l:List AV)
theorem uB {U:St} {b:Nat} {L:List AV} (h:U.box b=some L) (n o:Nat):ak (some (false,n)) (.box b o) U=jf (L.drop o):=by simp [ak,nr,h]
theorem Qj {U:St} {b:Nat} {L:List AV} (h:U.box b=some L) (n o:Nat):ak (some (true,n)) (.box b o) U=.cond (n <= (L.drop o).length) (.val (.agg ((L.drop o).take n))):=by simp [ak,nr,h]
@[simp] theorem vn:ak (some (false,sz)) (.cQ L) U=jf L:=rfl
@[simp] theorem NL:ak (some (true,sz)) (.cQ L) U=.cond (sz <= L.length) (.val (.agg (L.take sz))):=rfl
@[simp] theorem dF (x:AV):jf (x::L)=.val x:=rfl
theorem nW {U:St} {b:Nat} {L:List AV} (h:U.box b=some L) (t:Bool) (n o:Nat) (v:AV):aI (some (t,n)) (.box b o) v U=.cond (v.dh=true/\(ax v).length=n/\o+n <= L.length) (.jd (.aH []) b (.box (aA L o (ax v)))):=by simp [aI,h]
@[simp] theorem bN:aV (.box b o)=.val (.box b o):=rfl
@[simp] theorem yZ:aV (.cQ L)=.val (.cQ L):=rfl
@[simp] theorem Zj (f:Nat) (x y:List AV):aV (.func (.func f) x y)=.val (.func (.func f) x y):=rfl
@[simp] theorem aZ (k:Nat):af (some k) (.box b o)=.val (.box b (o+k)):=rfl
@[simp] theorem dJ (k:Nat):af (some k) (.cQ L)=.val (.cQ (L.drop k)):=rfl
@[simp] theorem MU (k n:Nat):u4 (some (k,false,n)) (.agg L)=jf (L.drop k):=rfl
@[simp] theorem adC (k n:Nat):u4 (some (k,true,n)) (.agg L)=.cond (k+n <= L.length) (.val (.agg ((L.drop k).take n))):=rfl
@[simp] theorem yX (e n:Nat) (c:mg) (k:IntKind) (j:Int) (at_:Option (Nat × TypeId × Nat)):aO (some (e,sz)) at_ (.vec n c L) (.int k j)=.cond (0 <= j/\j < n) (.val (.cQ (L.drop (j.toNat * sz)))):=rfl
@[simp] theorem abz (e n z t:Nat) (k:IntKind) (j:Int) (at_:Option (Nat × TypeId × Nat)):aO (some (e,sz)) at_ (.ms b o n z t) (.int k j)=.cond (0 <= j/\j < n/\z=sz) (.val (.box b (o+j.toNat * sz))):=rfl
@[simp] theorem FF (s:List UInt8) (k:IntKind) (j:Int) (at_:Option (Nat × TypeId × Nat)) (vt:Option (Bool × Nat)):hX true at_ vt (.str s) (.int k j)=.cond (0 <= j/\j < s.length) (.val (.int .u8 (s.getD j.toNat 0).toNat)):=by simp [hX]
@[simp] theorem mc (s:List UInt8):cE (some true) (.str s)=.val (.int .i64 s.length):=rfl
@[simp] theorem ua (n:Nat) (c:mg):cE (some false) (.vec n c L)=.val (.int .i64 n):=rfl
@[simp] theorem IZ (n z e:Nat):cE (some false) (.ms b o n z e)=.val (.int .i64 n):=rfl
@[simp] theorem len_nil:cE (some false) .aq=.val (.int .i64 0):=rfl
@[simp] theorem bD (k:Nat):aX (.aH L) k=jf (L.drop k):=rfl
@[simp] theorem Fe:ax (.agg L)=L:=rfl
@[simp] theorem OT (k:IntKind) (n:Int):ax (.int k n)=[.int k n]:=rfl
@[simp] theorem Ff (s:List UInt8):ax (.str s)=[.str s]:=rfl
@[simp] theorem adu (x:Bool):ax (.bool x)=[.bool x]:=rfl
@[simp] theorem aeS:ax (.box b o)=[.box b o]:=rfl
@[simp] theorem aeT (n:Nat) (c:mg):ax (.vec n c L)=[.vec n c L]:=rfl
@[simp] theorem ae5 (n z e:Nat):ax (.ms b o n z e)=[.ms b o n z e]:=rfl
@[simp] theorem X7:ax .aq=[.aq]:=rfl
@[simp] theorem aaS:ax .aW=[.aW]:=rfl
@[simp] theorem adx (f:Go.Fn) (x y:List AV):ax (.func f x y)=[.func f x y]:=rfl
@[simp] theorem adw (x y:List AV):ax (.ga x y)=[.ga x y]:=rfl
@[simp] theorem ae4 (m:Nat):ax (.mp m)=[.mp m]:=rfl
@[simp] theorem UT:(AV.agg L).dh=true:=rfl
@[simp] theorem UU (k:IntKind) (n:Int):(AV.int k n).dh=true:=rfl
@[simp] theorem UW (s:List UInt8):(AV.str s).dh=true:=rfl
@[simp] theorem aeV (x:Bool):(AV.bool x).dh=true:=rfl
@[simp] theorem afS:(AV.box b o).dh=true:=rfl
@[simp] theorem afT (n:Nat) (c:mg):(AV.vec n c L).dh=true:=rfl
@[simp] theorem agE (n z e:Nat):(AV.ms b o n z e).dh=true:=rfl
@[simp] theorem Zi:AV.aq.dh=true:=rfl
@[simp] theorem acV:AV.aW.dh=true:=rfl
@[simp] theorem aeX (f:Go.Fn) (x y:List AV):(AV.func f x y).dh=true:=rfl
@[simp] theorem aeW (x y:List AV):(AV.ga x y).dh=true:=rfl
@[simp] theorem agD (m:Nat):(AV.mp m).dh=true:=rfl
@[simp] theorem Fb (h:v.dh=true):fZ v=.cond True (.db (ax v)):=by simp [fZ,h]
@[simp] theorem ta (s:List UInt8) (sl:Option (TypeId × Nat)) (lo hi:Option AV):fI true sl (.str s) lo hi=(match ej 0 lo,ej s.length hi with
 | some l,some h=>.cond (0 <= l/\l <= h/\h <= s.length) (.val (.str ((s.take h.toNat).drop l.toNat)))
 | _,_=>.bad):=by
 simp only [fI]
 cases ej 0 lo <;> cases ej (s.length:Int) hi <;> rfl
@[simp] theorem nY (d:Int):ej d none=some d:=rfl
@[simp] theorem ki (d:Int) (k:IntKind) (n:Int):ej d (some (.int k n))=some n:=rfl
@[simp] theorem Af (e n:Nat) (c:mg) (lo hi:Option AV) (st:Bool):fI st (some (e,sz)) (.vec n c L) lo hi=(match ej 0 lo,ej n hi with
 | some a,some b=>.cond (0 <= a/\a <= b/\b <= n) (.val (.vec (b.toNat - a.toNat) (xE c hi) ((L.take (b.toNat * sz)).drop (a.toNat * sz))))
 | _,_=>.bad):=by
 simp only [fI]
 cases ej 0 lo <;> cases ej (n:Int) hi <;> rfl
@[simp] theorem agF (k:IntKind) (a b:Int):Cc (.int k a) (.int k b)=.val (.int k (if b > a then b else a)):=by simp [Cc]
@[simp] theorem YA (k:IntKind) (a b:Int):zJ (.int k a) (.int k b)=.val (.int k (if b < a then b else a)):=by simp [zJ]
end
theorem al.eq {R:cY->St->Prop} {x y:AV} {U:St} (h:R (.ret y) U) (e:x=y):al R x U:=by subst e; exact al.mk h
theorem Pure.go {C:cS} {f:FuncId} {args:List AV} {x:AV} {K:AV->St->Prop} {Kp:AV->St->Prop} {U:St} (h:Pure C f args x) (hk:K x U):ae C f args U (ag K Kp):=h U _ hk
end Go.Rip
