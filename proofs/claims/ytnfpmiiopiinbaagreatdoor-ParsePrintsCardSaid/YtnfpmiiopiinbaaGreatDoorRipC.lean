/- Lemmas for the proof: no conditions. -/
import Derived.Test.YtnfpmiiopiinbaaGreatDoorRipZz
import Derived.Test.YtnfpmiiopiinbaaGreatDoorRipB
set_option linter.unusedVariables false
set_option linter.unusedSimpArgs false
set_option linter.loopingSimpArgs false
namespace Go.Rip
open Go.RowKit
mutual
def flat:AV->Bool
 | .bool _ | .int _ _ | .str _ | .bU | .aA | .lr | .ez | .dv=>true
 | .iface _ v=>flat v
 | .agg l=>Cl l
 | .aG l=>Cl l
 | _=>false
def Cl:List AV->Bool
 | []=>true
 | x::xs=>flat x && Cl xs
end
mutual
theorem aE.flat {g g':Gh}:∀ (x:AV) (v:Value),flat x=true->aE g x v->aE g' x v
 | .bool _,_,_,hr=>hr
 | .int _ _,_,_,hr=>hr
 | .str _,_,_,hr=>hr
 | .bU,_,_,hr=>hr
 | .aA,_,_,hr=>hr
 | .lr,_,_,hr=>hr
 | .ez,_,_,hr=>hr
 | .dv,_,_,hr=>hr
 | .iface t x,v,h,hr=>by
   simp only [Rip.flat] at h
   simp only [aE] at hr ⊢
   obtain ⟨u,h1,h2⟩:=hr
   exact ⟨u,h1,aE.flat x u h h2⟩
 | .agg l,v,h,hr=>by
   simp only [Rip.flat] at h
   simp only [aE] at hr ⊢
   obtain ⟨vs,h1,h2,h3⟩:=hr
   exact ⟨vs,h1,h2,aH.flat l _ h h3⟩
 | .aG l,v,h,hr=>by
   simp only [Rip.flat] at h
   simp only [aE] at hr ⊢
   obtain ⟨vs,h1,h3⟩:=hr
   exact ⟨vs,h1,aH.flat l _ h h3⟩
theorem aH.flat {g g':Gh}:∀ (l:List AV) (vs:List Value),Cl l=true->aH g l vs->aH g' l vs
 | [],vs,_,h=>by cases vs <;> simp_all [aH]
 | x::xs,vs,h,hr=>by
   simp only [Cl,bX] at h
   simp only [aH] at hr ⊢
   obtain ⟨v,vs',h1,h2,h3⟩:=hr
   exact ⟨v,vs',h1,aE.flat x v h.1 h2,aH.flat xs vs' h.2 h3⟩
end
theorem ag.W0 {C:cT} {f:Nat} {args args0:List AV} {U:St} {R:cO->St->Prop} {x:AV} (d:Nat) (Cw:∀ i,closed (C.yT i)=true)
 (hw:∀ g vs,aH g (args.map (resolve d U)) vs->aH g args0 vs) (hargs:cK args0=true) (hx:flat x=true) (h:Pure C f args0 x) (hR:R (.ret x) U):ag C f args U R:=by
 intro g w vs hs hG ha
 have Kc:=hs.CL
 let g0:Gh:={ base:=w.heap.size,w0:=w,place:=fun _=>none,cC:=(g.all w).cC,cj:=(g.all w).cj,res:=fun _=>false }
 have uu:bp g0 (bJ ⟨.e,0⟩) w:={
  below:=Below.refl _ _
  le:=gE _
  cC:=fun q o u hu=>wG hs q o u hu
  cj:=fun q es c hu=>uR hs q es c hu
  live:=fun b x hb=>by cases hb
  apart:=fun b b' x x' p p' hb=>by cases hb
  res:=fun r hr=>by cases hr
  fin:=⟨0,fun n hn=>by cases hn; rfl,fun _ _=>rfl⟩ }
 have Nt:ix C g0:=⟨fun i=>aE.closed (g:=g) (g':=g0) (fun _ _ _ h=>Kc.cC _ _ _ h) (fun _ _ h=>Kc.cj _ _ h) _ _ (Cw i) (hG.1 i),fun i cs hi=>by
  obtain ⟨k1,t,fr,k2⟩:=hG.2 i cs hi
  refine ⟨Nat.lt_of_lt_of_le k1 hs.le,t,fr,?_⟩
  show w.heap[i]?=_
  rw [hs.below.block i k1]; exact k2⟩
 have ZC:aH g0 args0 vs:=aH.closed (g:=g.all w) (g':=g0) (fun _ _ _ h=>h) (fun _ _ h=>h) _ _ hargs (hw _ _ (BL (fun x v _ hr=>Bc hs d x v hr) ha))
 refine (h (bJ ⟨.e,0⟩) (fun r _=>r=.ret x) rfl g0 w vs uu Nt ZC).mono ?_
 rintro e w' hp
 cases e with
 | panicked ch=>obtain ⟨g',af,y,v,_,_,_,_,hz⟩:=hp; cases hz
 | outgrown=>exact hp.elim
 | returned v =>
   obtain ⟨g',af,y,h1,h2,h3,hz⟩:=hp
   cases hz
   have tE:=h2.CL
   have hle:=h1.trans tE
   have wN:Below w.heap.size w w':=by
    have:=h2.below
    rw [h1.base,h1.w0] at this
    exact this
   let gF:Gh:={ base:=g.base,w0:=g.w0,place:=g.place,cC:=g.cC,cj:=g.cj,res:=g.res }
   have He:Gh.Le g gF:=⟨rfl,rfl,fun _ _ h=>h,fun b o u hu=>hu,fun b u hu=>hu,fun _ h=>h,fun _ _ _=>rfl,fun _ _=>rfl⟩
   refine ⟨gF,U,x,He,?_,aE.flat x v hx h3,hR⟩
   exact {
    below:=hs.below.trans (wN.mono hs.le)
    le:=Nat.le_trans hs.le wN.size
    cC:=fun q o u hu=>wG h2 q o u (hle.cC _ _ _ (Kc.cC _ _ _ hu))
    cj:=fun q es c hu=>uR h2 q es c (hle.cj _ _ (Kc.cj _ _ hu))
    live:=fun b l hb=>by
     obtain ⟨p,k1,k2,k3⟩:=hs.live b l hb
     have aM:=k3.lt
     exact ⟨p,k1,k2,k3.frame He.r (wN.block _ aM) (fun o=>rfl) rfl⟩
    apart:=hs.apart
    res:=fun r hr=>by
     obtain ⟨k1,k2⟩:=hs.res r hr
     exact ⟨k1,by rw [wN.block _ (kG.1 k2).1]; exact k2⟩
    fin:=hs.fin }
inductive Wk:List AV->List AV->Prop
 | nil:Wk [] []
 | bo (x:AV) {l l':List AV}:Wk l l'->Wk (x::l) (x::l')
 | drop (x:AV) {l l':List AV}:Wk l l'->Wk (.any::l) (x::l')
theorem Wk.rep {g:Gh} {l l':List AV} (h:Wk l l'):∀ {vs:List Value},aH g l' vs->aH g l vs:=by
 induction h with
 | nil=>exact fun h=>h
 | bo x _ ih =>
   intro vs h
   simp only [aH] at h ⊢
   obtain ⟨u,us,h1,h2,h3⟩:=h
   exact ⟨u,us,h1,h2,ih h3⟩
 | drop x _ ih =>
   intro vs h
   simp only [aH] at h ⊢
   obtain ⟨u,us,h1,h2,h3⟩:=h
   exact ⟨u,us,h1,by simp only [aE],ih h3⟩
theorem Wk.cU {g:Gh} {l l' r:List AV} {vs:List Value} (h:Wk l l') (hr:aH g (.cU l'::r) vs):aH g (.cU l::r) vs:=by
 simp only [aH,aE] at hr ⊢
 obtain ⟨u,us,h1,⟨aN,off,ws,h2,h3,h4⟩,h5⟩:=hr
 exact ⟨u,us,h1,⟨aN,off,ws,h2,h3,h.rep h4⟩,h5⟩
theorem Wk.any:∀ (l:List AV),Wk (l.map fun _=>.any) l
 | []=>.nil
 | x::l=>.drop x (Wk.any l)
end Go.Rip
namespace Go.Rip
open Go.RowKit
def ah (vt:Option (Bool × Nat)) (p:AV) (U:St):ay :=
 match vt,mc U p with
 | some (true,sz),some l=>.cond (sz <= l.length) (.val (.agg (l.take sz)))
 | some (false,_),some l=>iH l
 | _,_=>.bad
def aU (vt:Option (Bool × Nat)) (p v:AV) (U:St):ay :=
 match vt,p with
 | some (_,sz),.box b off=>match U.box b with
   | some l=>.cond (v.eF=true/\(aC v).length=sz/\off+sz <= l.length) (.ir (.aG []) b (.box (aK l off (aC v))))
   | none=>.bad
 | _,_=>.bad
def Xx (t:TypeId) (z:Option (List AV)):ay :=
 match z with
 | some l=>Gt t l
 | none=>.bad
def ee (st:Option (List (Nat × Nat))) (z:Option (List AV)) (at_:Option (Nat × TypeId × Nat)) (parts:List (Nat × AV)):ay :=
 match st,z with
 | some pl,some z=>gG (fun i=>pl[i]?) parts z fun z=>.val (.agg z)
 | none,some z=>match at_ with
   | some (_,_,sz)=>gG (fun i=>some (i * sz,sz)) parts z fun z=>.val (.agg z)
   | none=>.bad
 | _,_=>.bad
def aJ (sl:Option (TypeId × Nat)) (z:Option (List AV)) (n:Nat) (mu:Bool) (parts:List (Nat × AV)):ay :=
 match sl with
 | some (e,sz)=>match z with
   | some z=>.cond (n * sz <= 16777216) (gG (fun i=>some (i * sz,sz)) parts (cN n z) fun cs=>.cond (cs.length=n * sz) (if mu then .oE n sz e none cs else .val (.vec n .full cs)))
   | none=>.bad
 | none=>.bad
def gh (mt:Option (FK × TypeId)) (m k v:AV) (U:St):ay :=
 match mt,m with
 | some (fk,_),.mp id=>match U.mp id with
   | some (ks,vs)=>match lX fk k ks 0,uv fk k with
     | some none,true=>.ir (.aG []) id (.mp (gN k v ks vs).1 (gN k v ks vs).2)
     | some (some i),true=>.ir (.aG []) id (.mp ks (vs.set i v))
     | _,_=>.bad
   | none=>.bad
 | _,_=>.bad
def gI (mt:Option (FK × TypeId)) (z:Option AV) (m k:AV) (ok:Bool) (U:St):ay :=
 match mt,mL U m with
 | some (fk,e),some (ks,vs)=>match z,uv fk k with
   | some z,true=>oD fk k z ok ks vs
   | _,_=>.bad
 | _,_=>.bad
def wJ (it:Option IntKind) (is:Bool) (ss bs:Bool) (x:AV):ay :=
 match it,is,x with
 | some .i64,true,.int _ n=>.cond (uf n) (.val (.int .i64 n))
 | some k,true,.int _ n=>.val (.int k (k.wrap n))
 | none,true,.str s=>if ss=true then .val (.str s) else
   if bs=true then .cond (s.length <= 4294967296) (.val (.vec s.length .kV (s.map fun b=>.int .u8 b.toNat))) else .bad
 | _,_,_=>.bad
def dt (st:Bool) (sl:Option (TypeId × Nat)) (x:AV) (lo hi:Option AV):ay :=
 match x with
 | .str s=>match st,dR 0 lo,dR s.length hi with
   | true,some l,some h=>.cond (0 <= l/\l <= h/\h <= s.length) (.val (.str ((s.take h.toNat).drop l.toNat)))
   | _,_,_=>.bad
 | .vec n cap l=>match sl,dR 0 lo,dR n hi with
   | some (_,sz),some a,some b=>.cond (0 <= a/\a <= b/\b <= n) (.val (.vec (b.toNat - a.toNat) (sQ cap hi) ((l.take (b.toNat * sz)).drop (a.toNat * sz))))
   | _,_,_=>.bad
 | .aA=>match sl,dR 0 lo,dR 0 hi with
   | some (_,_),some a,some b=>.cond (a=0/\b=0) (.val .aA)
   | _,_,_=>.bad
 | .ms b off n jq e=>match sl,dR 0 lo,dR n hi with
   | some (_,sz),some a,some h=>.cond (0 <= a/\a <= h/\h <= n/\(a < n\/a=0)/\jq=sz) (.val (.ms b (off+a.toNat * sz) (h.toNat - a.toNat) jq e))
   | _,_,_=>.bad
 | _=>.bad
def ae (ft:Option Nat) (p:AV):ay :=
 match ft,p with
 | some o,.box b off=>.val (.box b (off+o))
 | some o,.cU l=>.val (.cU (l.drop o))
 | _,_=>.bad
def yQ (fv:Option (Nat × Bool × Nat)) (x:AV):ay :=
 match fv,x with
 | some (o,true,n),.agg l=>.cond (o+n <= l.length) (.val (.agg ((l.drop o).take n)))
 | some (o,false,_),.agg l=>iH (l.drop o)
 | _,_=>.bad
def YZ (at_:Option (Nat × TypeId × Nat)) (x i:AV):ay :=
 match at_,x,i with
 | some (n,_,sz),.cU l,.int _ j=>.cond (0 <= j/\j < n) (.val (.cU (l.drop (j.toNat * sz))))
 | some (n,_,sz),.box b off,.int _ j=>.cond (0 <= j/\j < n) (.val (.box b (off+j.toNat * sz)))
 | _,_,_=>.bad
def au (sl:Option (TypeId × Nat)) (at_:Option (Nat × TypeId × Nat)) (x i:AV):ay :=
 match sl,x,i with
 | none,x,i=>YZ at_ x i
 | some (_,sz),.vec n _ l,.int _ j=>.cond (0 <= j/\j < n) (.val (.cU (l.drop (j.toNat * sz))))
 | some (_,sz),.ms b off n jq _,.int _ j=>.cond (0 <= j/\j < n/\jq=sz) (.val (.box b (off+j.toNat * sz)))
 | _,_,_=>.bad
def eh (st:Bool) (at_:Option (Nat × TypeId × Nat)) (vt:Option (Bool × Nat)) (x i:AV):ay :=
 match x,i with
 | .str s,.int _ j=>if st=true then .cond (0 <= j/\j < s.length) (.val (.int .u8 (s.getD j.toNat 0).toNat)) else .bad
 | .agg l,.int _ j=>match at_ with
   | some (n,e,sz)=>match vt with
     | some (false,_)=>.cond (0 <= j/\j < n) (iH (l.drop (j.toNat * sz)))
     | some (true,k)=>.cond (0 <= j/\j < n/\k=sz/\j.toNat * sz+sz <= l.length) (.val (.agg ((l.drop (j.toNat * sz)).take sz)))
     | none=>.bad
   | none=>.bad
 | _,_=>.bad
def LQ (b:Bool) (t:TypeId) (x:AV):ay:=if b=true then .val (.iface t x) else .bad
def tT (mt:Option (FK × TypeId)) (m:AV):ay :=
 match mt,m with
 | some _,.gb ks vs=>.new .it none (.iter (ks.zip vs) none)
 | _,_=>.bad
def vn (z:Option AV) (x:AV) (t:TypeId) (ok:Bool):ay :=
 match z,x with
 | some z,.iface u v=>if u=t then .val (if ok then .aG [v,.bool true] else v) else if ok then .val (.aG [z,.bool false]) else .bad
 | some z,.dv=>if ok then .val (.aG [z,.bool false]) else .bad
 | _,_=>.bad
def sU (sl:Option (TypeId × Nat)) (z:Option (List AV)) (mu:Bool) (l c:AV):ay :=
 match sl,l,c with
 | some (e,sz),.int _ l,.int _ c=>match z with
   | some z=>.cond (0 <= l/\l=c/\c <= 65536) (if mu then .oE l.toNat sz e none (cN l.toNat z) else .nv l.toNat (cN l.toNat z) none ⟨l.toNat,e,sz⟩)
   | none=>.bad
 | _,_,_=>.bad
def Ce (sl:Option (TypeId × Nat)) (z:Option (List AV)) (x:AV) (U:St):ay :=
 match sl,x with
 | some (e,sz),.ms b off n jq _=>match U.box b,z with
   | some l,some z=>.cond (jq=sz/\off+n * sz <= l.length) (.ir (.aG []) b (.box (aK l off (cN n z))))
   | _,_=>.bad
 | _,_=>.bad
def br (lt:Option Bool) (x:AV):ay :=
 match lt,x with
 | some true,.str s=>.val (.int .i64 s.length)
 | some false,.vec n _ _=>.val (.int .i64 n)
 | some false,.ms _ _ n _ _=>.val (.int .i64 n)
 | some false,.aA=>.val (.int .i64 0)
 | _,_=>.bad
def eu (ap:Option (TypeId × Nat)) (mu:Bool) (s y:AV) (U:St):ay :=
 match ap,pL U y with
 | some (e,sz),some (m,l2) =>
   .cond (l2.length=m * sz) (match s with
   | .aA=>if m=0 then .val .aA else .cond (m <= 4294967296) (if mu then .oE m sz e none l2 else .nv m l2 none ⟨m,e,sz⟩)
   | .vec n .full l=>if m=0 then .val s else .cond (l.length=n * sz/\n+m <= 4294967296) (.nv (n+m) (l++l2) none ⟨n+m,e,sz⟩)
   | .vec n (.own τ) l=>.cond (U.tok τ=some ⟨n,e,sz⟩/\l.length=n * sz/\n+m <= 4294967296) (.nv (n+m) (l++l2) (some τ) ⟨n+m,e,sz⟩)
   | .ms b off n jq e'=>match U.box b with
     | some l=>.cond (off=0/\jq=sz/\e'=e/\n * sz <= l.length/\n+m <= 4294967296) (.oE (n+m) sz e (some b) (l.take (n * sz)++l2))
     | none=>.bad
   | _=>.bad)
 | _,_=>.bad
structure BT where
 b:Bool
 i:Bool
 p:Bool
 f:Option (List FK)
 s:Bool
def Y6 (P:Program) (t:TypeId):BT:=⟨vX P t,kz P t,ml P t,Li P t,pH P t⟩
def eqR (f:Option (List FK)) (a b:List AV):Option Bool :=
 match f with
 | some ks=>o7 ks a b
 | none=>none
def ai (op:BinOp) (bt:BT) (lit:Bool) (x y:AV):ay :=
 match op,x,y with
 | .eql,.dv,.dv=>if bt.i=true/\lit=true then .val (.bool true) else .bad
 | .neq,.dv,.dv=>if bt.i=true/\lit=true then .val (.bool false) else .bad
 | .add,.int k a,.int k' b=>if k=k' then iP k (a+b) else .bad
 | .sub,.int k a,.int k' b=>if k=k' then iP k (a - b) else .bad
 | .mul,.int k a,.int k' b=>if k=k' then iP k (a * b) else .bad
 | .quo,.int k a,.int k' b=>if k=k' then .cond (b ≠ 0) (iP k (a.tdiv b)) else .bad
 | .rem,.int k a,.int k' b=>if k=k' then .cond (b ≠ 0) (.val (.int k (a.tmod b))) else .bad
 | .and,.int k a,.int k' b=>if k=k' then .val (.int k (k.wrap (BitVec.ofInt k.bits a &&& BitVec.ofInt k.bits b).toNat)) else .bad
 | .or,.int k a,.int k' b=>if k=k' then .val (.int k (k.wrap (BitVec.ofInt k.bits a ||| BitVec.ofInt k.bits b).toNat)) else .bad
 | .eql,.int k a,.int k' b=>if k=k' then .val (.bool (a == b)) else .bad
 | .neq,.int k a,.int k' b=>if k=k' then .val (.bool (a != b)) else .bad
 | .lss,.int k a,.int k' b=>if k=k' then .val (.bool (decide (a < b))) else .bad
 | .leq,.int k a,.int k' b=>if k=k' then .val (.bool (decide (a <= b))) else .bad
 | .gtr,.int k a,.int k' b=>if k=k' then .val (.bool (decide (a > b))) else .bad
 | .geq,.int k a,.int k' b=>if k=k' then .val (.bool (decide (a >= b))) else .bad
 | .eql,.str a,.str b=>.val (.bool (a == b))
 | .neq,.str a,.str b=>.val (.bool (a != b))
 | .add,.str a,.str b=>.cond (a.length+b.length <= 4294967296) (.val (.str (a++b)))
 | .eql,.bool a,.bool b=>if bt.b=true then .val (.bool (a == b)) else .bad
 | .neq,.bool a,.bool b=>if bt.b=true then .val (.bool (a != b)) else .bad
 | .eql,.agg a,.agg b=>xW .bool (eqR bt.f a b)
 | .neq,.agg a,.agg b=>xW (fun r=>.bool (!r)) (eqR bt.f a b)
 | .eql,.iface _ _,.dv=>if bt.i=true then .val (.bool false) else .bad
 | .neq,.iface _ _,.dv=>if bt.i=true then .val (.bool true) else .bad
 | .eql,.bU,.bU=>if bt.p=true then .val (.bool true) else .bad
 | .eql,.box _ _,.bU=>if bt.p=true then .val (.bool false) else .bad
 | .neq,.bU,.bU=>if bt.p=true then .val (.bool false) else .bad
 | .neq,.box _ _,.bU=>if bt.p=true then .val (.bool true) else .bad
 | .eql,.cU _,.bU=>if bt.p=true then .val (.bool false) else .bad
 | .neq,.cU _,.bU=>if bt.p=true then .val (.bool true) else .bad
 | .eql,.aA,.aA=>if bt.s=true then .val (.bool true) else .bad
 | .eql,.vec _ _ _,.aA=>if bt.s=true then .val (.bool false) else .bad
 | .eql,.ms _ _ _ _ _,.aA=>if bt.s=true then .val (.bool false) else .bad
 | _,_,_=>.bad
theorem We (P:Program) (op:BinOp) (t:TypeId) (lit:Bool) (x y:AV):ai op (Y6 P t) lit x y=Gx P op t lit x y:=by
 unfold ai Gx K4
 cases op <;> cases x <;> cases y <;> rfl
def wC (P:Program) (t:TypeId):Option (List AV):=match fj P t with
 | some (e,_)=>pC P e
 | none=>none
def Uu (P:Program) (t:TypeId):Option (Bool × Nat):=match uS P t with
 | some (_,e,_)=>nO P e
 | none=>none
def R3 (P:Program) (t:TypeId):Option AV:=match qn P t with
 | some (_,e)=>zeroV P e
 | none=>none
def R6 (gt:Option (TypeId × Nat × List AV)) (ap:Option (TypeId × Nat)) (mu:Bool) (s y:AV) (U:St):ay :=
 match gt with
 | some q=>F3 q mu s y
 | none=>eu ap mu s y U
def K8 (C:cT) (mu:Bool) (c:Call) (ρ:Env) (U:St):ay :=
 match c.callee,c.argTypes.toList,c.args.toList with
 | .value (.func f),_,args=>if gj C.P f=true then .enter f (args.map (ρ.ev C)) else .bad
 | .value f,_,args=>jW C.P (ρ.ev C f) (args.map (ρ.ev C))
 | .builtin .len,[t],[x]=>br (LJ C.P t) (ρ.ev C x)
 | .builtin .append,[t,u],[s,y]=>R6 (Cp C.P t u) (K2 C.P t u) mu (ρ.ev C s) (ρ.ev C y) U
 | .builtin .cap,[t],[x]=>GD (fj C.P t) (ρ.ev C x)
 | .builtin .min,_,[x,y]=>u5 (ρ.ev C x) (ρ.ev C y)
 | .builtin .max,_,[x,y]=>Bz (ρ.ev C x) (ρ.ev C y)
 | .builtin .clear,[t],[x]=>Ce (fj C.P t) (wC C.P t) (ρ.ev C x) U
 | _,_,_=>.bad
def sI (C:cT) (mu:Bool) (o:Op) (ρ:Env) (U:St):ay :=
 match o with
 | .move x | .assign x=>.val (ρ.ev C x)
 | .pick c a b=>aO (ρ.ev C c) (ρ.ev C a) (ρ.ev C b)
 | .alloc t=>Xx t (pC C.P t)
 | .box _ x=>eO (ρ.ev C x)
 | .build t parts=>ee (Ay C.P t) (pC C.P t) (uS C.P t) (mg C ρ parts)
 | .buildSlice t n parts=>aJ (fj C.P t) (wC C.P t) n mu (mg C ρ parts)
 | .insert t m k v | .mapUpdate t m k v=>gh (qn C.P t) (ρ.ev C m) (ρ.ev C k) (ρ.ev C v) U
 | .load t a=>ah (nO C.P t) (ρ.ev C a) U
 | .store t a v=>aU (nO C.P t) (ρ.ev C a) (ρ.ev C v) U
 | .nilCheck x=>bR (ρ.ev C x)
 | .binOp op t x y _=>ai op (Y6 C.P t) (isLit x || isLit y) (ρ.ev C x) (ρ.ev C y)
 | .unOp op _ x=>hY op (ρ.ev C x)
 | .convert s d x=>wJ (LC C.P d) (C.P.underlying s).isSome (nr C.P d && nr C.P s) (wW C.P d && nr C.P s) (ρ.ev C x)
 | .makeInterface t x=>LQ (zq C.P t) t (ρ.ev C x)
 | .makeFunc fn first cap=>.val (.func fn (first.toList.map (ρ.ev C)) (cap.toList.map (ρ.ev C)))
 | .makeMap _ none=>.xl
 | .slice t x lo hi none=>dt (nr C.P t) (fj C.P t) (ρ.ev C x) (lo.map (ρ.ev C)) (hi.map (ρ.ev C))
 | .fieldAddr s x f=>ae (yO C.P s f) (ρ.ev C x)
 | .field s x f=>yQ (Aj C.P s f) (ρ.ev C x)
 | .indexAddr t x i=>au (fj C.P t) (uS C.P t) (ρ.ev C x) (ρ.ev C i)
 | .index t x i=>eh (nr C.P t) (uS C.P t) (Uu C.P t) (ρ.ev C x) (ρ.ev C i)
 | .lookup t m k ok=>gI (qn C.P t) (R3 C.P t) (ρ.ev C m) (ρ.ev C k) ok U
 | .extract t i=>aV (ρ.ev C t) i
 | .panic x=>zw (ρ.ev C x)
 | .range t m=>tT (qn C.P t) (ρ.ev C m)
 | .typeAssert x _ t ok=>vn (Af C.P t) (ρ.ev C x) t ok
 | .makeSlice t l c=>sU (fj C.P t) (wC C.P t) mu (ρ.ev C l) (ρ.ev C c)
 | .next i false=>ry (ρ.ev C i) U
 | .entry i=>mf (ρ.ev C i) U
 | .call c=>K8 C mu c ρ U
 | _=>.bad
theorem Sa (C:cT) (mu:Bool) (c:Call) (ρ:Env) (U:St):K8 C mu c ρ U=Ag C mu c ρ U:=by
 unfold K8 Ag
 obtain ⟨callee,⟨args⟩,⟨VR⟩⟩:=c
 cases callee with
 | value f =>
   cases f <;> simp only [jW,Env.ev,mw,gw]
 | invoke r m=>rfl
 | builtin b =>
   cases b
   case clear =>
    dsimp only
    rcases VR with _ | ⟨t,_ | ⟨u,_ | _⟩⟩ <;> rcases args with _ | ⟨x,_ | ⟨y,_ | _⟩⟩ <;> try rfl
    simp only [Ce,yJ,wC]
    generalize ρ.ev C x=y
    cases h:fj C.P t with
    | none=>rfl
    | some es=>(cases es; cases y <;> rfl)
   all_goals first | rfl | (dsimp only; rcases VR with _ | ⟨t,_ | ⟨u,_ | _⟩⟩ <;> rcases args with _ | ⟨x,_ | ⟨y,_ | _⟩⟩ <;> rfl)
theorem pk (C:cT) (mu:Bool) (o:Op) (ρ:Env) (U:St):sI C mu o ρ U=jH C mu o ρ U:=by
 cases o with
 | binOp op t x y yt=>exact We _ _ _ _ _ _
 | call c=>exact Sa _ _ _ _ _
 | buildSlice t n parts =>
   simp only [sI,jH,aJ,ri,wC]
   cases h:fj C.P t with
   | none=>rfl
   | some es=>(cases es; rfl)
 | index t x i =>
   simp only [sI,jH,eh,CF,Uu]
   generalize ρ.ev C x=y
   generalize ρ.ev C i=z
   cases h:uS C.P t with
   | none=>cases y <;> rfl
   | some es=>(cases es; cases y <;> cases z <;> rfl)
 | lookup t m k ok =>
   simp only [sI,jH,gI,wb,R3]
   generalize mL U (ρ.ev C m)=y
   cases h:qn C.P t with
   | none=>rfl
   | some es=>(cases es; cases y <;> rfl)
 | makeSlice t l c =>
   simp only [sI,jH,sU,sT,wC]
   generalize ρ.ev C l=y
   generalize ρ.ev C c=z
   cases h:fj C.P t with
   | none=>rfl
   | some es=>(cases es; cases y <;> cases z <;> rfl)
 | convert s d x =>
   simp only [sI,jH,wJ,F1,bX]
   rfl
 | makeMap t r=>cases r <;> rfl
 | slice t x lo hi m=>cases m <;> rfl
 | next i b=>cases b <;> rfl
 | _=>rfl
end Go.Rip
namespace Go.Rip
open Go.RowKit
def Fn:Nat->Type
 | 0=>St->Prop
 | n+1=>AV->Fn n
namespace Fn
def app:(n:Nat)->Fn n->List AV->St->Prop
 | 0,f,_,U=>f U
 | n+1,f,x::xs,U=>app n (f x) xs U
 | n+1,f,[],U=>app n (f .any) [] U
def lam:(n:Nat)->(List AV->St->Prop)->Fn n
 | 0,F=>fun U=>F [] U
 | n+1,F=>fun x=>lam n (fun xs U=>F (x::xs) U)
theorem pM:∀ (n:Nat) (F:List AV->St->Prop) (xs:List AV) (U:St),xs.length=n->app n (lam n F) xs U=F xs U
 | 0,F,[],U,_=>rfl
 | n+1,F,x::xs,U,h=>pM n (fun xs U=>F (x::xs) U) xs U (by simpa using h)
 | 0,F,_::_,U,h=>by simp at h
 | n+1,F,[],U,h=>by simp at h
def imp:(n:Nat)->Fn n->Fn n->Prop
 | 0,f,g=>∀ U,f U->g U
 | n+1,f,g=>∀ x,imp n (f x) (g x)
theorem Ko:∀ {n:Nat} {f g:Fn n},imp n f g->∀ (xs:List AV) (U:St),xs.length=n->app n f xs U->app n g xs U
 | 0,f,g,h,xs,U,_,hf=>h U hf
 | n+1,f,g,h,x::xs,U,hl,hf=>Ko (h x) xs U (by simpa using hl) hf
 | n+1,f,g,h,[],U,hl,hf=>by simp at hl
theorem JT:∀ {n:Nat} {f g:Fn n},(∀ (xs:List AV) (U:St),xs.length=n->app n f xs U->app n g xs U)->imp n f g
 | 0,f,g,h=>fun U hf=>h [] U rfl hf
 | n+1,f,g,h=>fun x=>JT fun xs U hl hf=>h (x::xs) U (by simpa using hl) hf
end Fn
def CN:List Nat->List AV->Nat->AV
 | s::ss,x::xs,t=>cond (Nat.beq t s) x (CN ss xs t)
 | _,_,_=>.any
def DH (live:List Nat) (vs:List AV):Env:=⟨CN live vs⟩
theorem E9 (f:Nat->AV) (t:Nat):∀ live:List Nat,CN live (live.map f) t=f t\/CN live (live.map f) t=.any
 | []=>.inr rfl
 | s::ss=>by
   simp only [dV,CN]
   cases h:Nat.beq t s with
   | true=>have:=eQ h; subst this; exact .inl rfl
   | false=>exact E9 f t ss
theorem Eo (ρ:Env) (live:List Nat) (t:Nat):(DH live (live.map ρ.get)).get t=ρ.get t\/(DH live (live.map ρ.get)).get t=.any:=E9 ρ.get t live
section
variable {C:cT} {nt:Nat} {ro:Ro} {U:St} {ρ:Env}
theorem bI.KU {c:Code} {Q:Ex->Env->St->Prop} {dY:Env} (h:bI C nt ro c Q dY U) (hw:∀ t,dY.get t=ρ.get t\/dY.get t=.any):bI C nt ro c Q ρ U :=
 fun g w a fr h1 h2 h3 h4 h5=>h g w a fr h1 h2 (fun t=>by
  rcases hw t with e | e
  . rw [e]; exact h3 t
  . rw [e]; simp only [aE]) h4 h5
end
structure Qx where
 n:Env->St->Prop
 e:Nat->Env->St->Prop
 r:Env->St->Prop
 p:AV->St->Prop
def Qx.q (Q:Qx):Ex->Env->St->Prop
 | .normal,ρ,U=>Q.n ρ U
 | .exit i,ρ,U=>Q.e i ρ U
 | .ret,ρ,U=>Q.r ρ U
 | .panic x,_,U=>Q.p x U
def ack (ops:Array Oper) (j:Nat):Option Nat:=(ops[j]?).bind (·.dst)
def ar (v:AV) (want:Bool):AV:=match v with
 | .bool b=>.bool (b == want)
 | .aG []=>.bool false
 | _=>.any
def G1 (ops:Array Oper) (ρ:Env) (jw:Nat × Bool):AV:=match ack ops jw.1 with
 | some d=>ar (ρ.get d) jw.2
 | none=>.any
theorem G2 (ops:Array Oper) (ρ:Env) (jw:Nat × Bool):ig ops ρ (some jw)=G1 ops ρ jw:=rfl
def D4 (b:Bool) (v:AV):AV:=match b with
 | true=>v
 | false=>.aG []
def eL (C:cT) (b:Bool):ay->(AV->Prop)->Prop
 | .val v,k=>k (D4 b v)
 | @ay.cond p _ r,k=>(b=true->p)/\eL C b r k
 | .enter f args,k=>∃ v,(b=true->Pure C f args v)/\k (D4 b v)
 | _,k=>b=false/\k (.aG [])
def ad (C:cT) (gv:AV) (r:ay) (k:AV->Prop):Prop:=match gv with
 | .bool b=>eL C b r k
 | _=>False
theorem Ba {C:cT}:∀ (r:ay) {k:AV->Prop},eL C true r k->∃ v,r.yv C v/\k v
 | .val v,k,h=>⟨v,rfl,h⟩
 | @ay.cond _ _ r,k,h=>let ⟨v,h1,h2⟩:=Ba r h.2; ⟨v,⟨h.1 rfl,h1⟩,h2⟩
 | .enter _ _,k,h=>let ⟨v,h1,h2⟩:=h; ⟨v,h1 rfl,h2⟩
 | .ir _ _ _,_,h=>by cases h.1
 | .new _ _ _,_,h=>by cases h.1
 | .lh _ _,_,h=>by cases h.1
 | .yield _ _,_,h=>by cases h.1
 | .panic _,_,h=>by cases h.1
 | .bad,_,h=>by cases h.1
theorem zB {C:cT}:∀ (r:ay) {k:AV->Prop},eL C false r k->k (.aG [])
 | .val v,k,h=>h
 | @ay.cond _ _ r,k,h=>zB r h.2
 | .enter _ _,k,h=>let ⟨v,h1,h2⟩:=h; h2
 | .ir _ _ _,_,h=>h.2
 | .new _ _ _,_,h=>h.2
 | .lh _ _,_,h=>h.2
 | .yield _ _,_,h=>h.2
 | .panic _,_,h=>h.2
 | .bad,_,h=>h.2
theorem zC {C:cT} {gv:AV} {r:ay} {k:AV->Prop} (h:ad C gv r k):(gv=.bool true/\∃ v,r.yv C v/\k v)\/(gv=.bool false/\k (.aG [])):=by
 cases gv <;> simp only [ad] at h
 rename_i b
 cases b
 . exact .inr ⟨rfl,zB r h⟩
 . exact .inl ⟨rfl,Ba r h⟩
def aaC (pf:List Nat) (o:Op):Bool:=match o with
 | .call c=>match c.callee with
   | .value (.func f)=>pf.any fun g=>Nat.beq g f
   | .value _=>false
   | _=>quiet o
 | o=>quiet o
def DN (C:cT) (o:Op) (ρ:Env):Option AV:=match o with
 | .move x | .assign x=>some (ρ.ev C x)
 | .makeFunc fn first cap=>some (.func fn (first.toList.map (ρ.ev C)) (cap.toList.map (ρ.ev C)))
 | _=>none
theorem Al {C:cT} {o:Op} {ρ:Env} {v:AV} (h:DN C o ρ=some v) (mu:Bool) (U:St):sI C mu o ρ U=.val v:=by
 unfold DN at h
 split at h
 . cases h; rfl
 . cases h; rfl
 . cases h; rfl
 . cases h
def u7 (C:cT) (mu pf:List Nat) (ops:Array Oper):List Oper->Env->St->(Env->St->Prop)->(AV->St->Prop)->Prop
 | [],ρ,U,K,_=>K ρ U
 | o::rest,ρ,U,K,Kp=>match o.guard with
   | none=>match DN C o.op ρ with
     | some v=>u7 C mu pf ops rest (ρ.eB o.dst v) U K Kp
     | none=>(sI C (nM mu o) o.op ρ U).wp C U (fun v U=>u7 C mu pf ops rest (ρ.eB o.dst v) U K Kp) Kp
   | some jw=>match aaC pf o.op with
     | true=>ad C (G1 ops ρ jw) (sI C (nM mu o) o.op ρ U) (fun v=>u7 C mu pf ops rest (ρ.eB o.dst v) U K Kp)
     | false=>ao (G1 ops ρ jw) ((sI C (nM mu o) o.op ρ U).wp C U (fun v U=>u7 C mu pf ops rest (ρ.eB o.dst v) U K Kp) Kp)
       (u7 C mu pf ops rest (ρ.eB o.dst (.aG [])) U K Kp)
theorem we {C:cT} {mu pf:List Nat} {ops:Array Oper} {K:Env->St->Prop} {Kp:AV->St->Prop}:∀ (l:List Oper) (ρ:Env) (U:St),
 u7 C mu pf ops l ρ U K Kp->o0 C mu ops l ρ U K Kp
 | [],_,_,h=>h
 | o::rest,ρ,U,h=>by
   have step:∀ {r:ay},r.wp C U (fun v U=>u7 C mu pf ops rest (ρ.eB o.dst v) U K Kp) Kp ->
    r.wp C U (fun v af=>o0 C mu ops rest (ρ.eB o.dst v) af K Kp) Kp:=fun hr=>ay.wp_mono (fun v af hv=>we rest _ _ hv) _ hr
   simp only [u7] at h
   simp only [o0]
   show ao (ig ops ρ o.guard) ((jH C (nM mu o) o.op ρ U).wp C U (fun v af=>o0 C mu ops rest (ρ.eB o.dst v) af K Kp) Kp) (o0 C mu ops rest (ρ.eB o.dst (.aG [])) U K Kp)
   rw [<- pk]
   cases hg:o.guard with
   | none =>
     rw [hg] at h
     simp only at h
     refine ⟨fun _=>?_,fun hf=>(by cases hf)⟩
     split at h
     . rename_i v hv
       rw [Al hv]
       exact we rest _ _ h
     . exact step h
   | some jw =>
     rw [hg] at h
     simp only at h
     rw [G2]
     split at h
     . rcases zC h with ⟨hb,v,hv,hk⟩ | ⟨hb,hk⟩
       . rw [hb]
         refine ⟨fun _=>?_,fun hf=>(by cases hf)⟩
         exact ay.ML _ hv (we rest _ _ hk)
       . rw [hb]
         exact ⟨fun hf=>(by cases hf),fun _=>we rest _ _ hk⟩
     . cases hv:G1 ops ρ jw <;> rw [hv] at h <;> simp only [ao] at h ⊢
       exact ⟨fun e=>step (h.1 e),fun e=>we rest _ _ (h.2 e)⟩
def aF (C:cT):ay->(AV->Prop)->Prop
 | .val v,k=>k v
 | @ay.cond p _ r,k=>p/\aF C r k
 | .enter f args,k=>∃ v,Pure C f args v/\k v
 | _,_=>False
theorem Fh {C:cT}:∀ (r:ay) {k:AV->Prop},aF C r k->∃ v,r.yv C v/\k v
 | .val v,k,h=>⟨v,rfl,h⟩
 | @ay.cond _ _ r,k,h=>let ⟨v,h1,h2⟩:=Fh r h.2; ⟨v,⟨h.1,h1⟩,h2⟩
 | .enter _ _,k,h=>h
 | .ir _ _ _,_,h=>h.elim
 | .new _ _ _,_,h=>h.elim
 | .lh _ _,_,h=>h.elim
 | .yield _ _,_,h=>h.elim
 | .panic _,_,h=>h.elim
 | .bad,_,h=>h.elim
def Cv (C:cT) (ρ:Env) (o:Op):List Nat:=o.operands.toList.flatMap fun x=>dK (ρ.ev C x)
def rdW (b:Bool) (P k:Prop):Prop:=match b with
 | true=>P/\k
 | false=>k
def ixW (b:Bool) (P k:Prop):Prop:=match b with
 | true=>k
 | false=>P/\k
theorem Of {ops:Array Oper} {i:Nat} {I:St->Prop} {U:St} {k:Prop} (h:ixW (rJ ops i) (I U) k):Ix ops I i U/\k:=by
 unfold Ix
 cases ha:rJ ops i <;> rw [ha] at h <;> simp only [ixW] at h
 . exact ⟨.inr h.1,h.2⟩
 . exact ⟨.inl (by unfold nR; rw [ha]; rfl),h⟩
def zD (C:cT) (ops:Array Oper) (ρ:Env) (g:Option (Nat × Bool)) (i:Option AV) (r:ay) (k:AV->Prop):Prop:=match g with
 | none=>match i with
   | some v=>k v
   | none=>aF C r k
 | some jw=>ad C (G1 ops ρ jw) r k
def gW (ops:Array Oper) (ρ:Env) (g:Option (Nat × Bool)) (A B:Prop):Prop:=match g with
 | none=>A
 | some jw=>ao (G1 ops ρ jw) A B
def oG (C:cT) (mu:List Nat) (ops:Array Oper) (aw:St) (K:Env->St->Prop) (Kp:AV->St->Prop) (B:List Nat):List (Bool × Nat)->Env->St->Prop
 | [],ρ,U=>K ρ U
 | (true,i)::r,ρ,U=>match ops[i]? with
   | none=>False
   | some o=>match quiet o.op with
     | false=>False
     | true=>rdW (oJ o.op) (∀ b ∈ Cv C ρ o.op,b ∈ B) (zD C ops ρ o.guard (DN C o.op ρ) (sI C (nM mu o) o.op ρ aw) fun v=>oG C mu ops aw K Kp B r (ρ.eB o.dst v) U)
 | (false,i)::r,ρ,U=>match ops[i]? with
   | none=>False
   | some o=>gW ops ρ o.guard ((sI C (nM mu o) o.op ρ U).wp C U (fun v U=>ixW (rJ ops i) (cL B aw U) (oG C mu ops aw K Kp B r (ρ.eB o.dst v) U)) Kp)
      (oG C mu ops aw K Kp B r (ρ.eB o.dst (.aG [])) U)
def Gc (C:cT) (mu:List Nat) (ops:Array Oper) (aw:St) (K:Env->St->Prop) (Kp:AV->St->Prop):List (Bool × Nat)->List Nat->Env->St->Prop
 | [],_,ρ,U=>K ρ U
 | (true,i)::r,B,ρ,U=>match ops[i]? with
   | none=>False
   | some o=>match quiet o.op with
     | false=>False
     | true=>zD C ops ρ o.guard (DN C o.op ρ) (sI C (nM mu o) o.op ρ aw) fun v=>Gc C mu ops aw K Kp r (match oJ o.op with | true=>Cv C ρ o.op++B | false=>B) (ρ.eB o.dst v) U
 | (false,i)::r,B,ρ,U=>oG C mu ops aw K Kp B ((false,i)::r) ρ U
def xu (C:cT) (mu:List Nat) (ops:Array Oper) (aw:St) (K:Env->St->Prop) (Kp:AV->St->Prop):List (Bool × Nat)->Env->St->Prop
 | [],ρ,U=>K ρ U
 | (true,i)::r,ρ,U=>match ops[i]? with
   | none=>False
   | some o=>match quiet o.op with
     | false=>False
     | true=>zD C ops ρ o.guard (DN C o.op ρ) (sI C (nM mu o) o.op ρ aw) fun v=>xu C mu ops aw K Kp r (ρ.eB o.dst v) U
 | (false,i)::r,ρ,U=>match nR ops i,ops[i]? with
   | true,some o=>gW ops ρ o.guard ((sI C (nM mu o) o.op ρ U).wp C U (fun v U=>xu C mu ops aw K Kp r (ρ.eB o.dst v) U) Kp) (xu C mu ops aw K Kp r (ρ.eB o.dst (.aG [])) U)
   | _,_=>False
section
variable {C:cT} {mu:List Nat} {ops:Array Oper} {aw:St} {K:Env->St->Prop} {Kp:AV->St->Prop}
theorem Bs {ρ:Env} {g:Option (Nat × Bool)} {A B:Prop} (h:gW ops ρ g A B):(ig ops ρ g=.bool true/\A)\/(ig ops ρ g=.bool false/\B):=by
 unfold gW at h
 cases g with
 | none=>exact .inl ⟨rfl,h⟩
 | some jw =>
   simp only at h
   rw [G2]
   cases hv:G1 ops ρ jw <;> rw [hv] at h <;> simp only [ao] at h
   rename_i b
   cases b
   . exact .inr ⟨rfl,h.2 rfl⟩
   . exact .inl ⟨rfl,h.1 rfl⟩
theorem tR {ρ:Env} {g:Option (Nat × Bool)} {i:Option AV} {r:ay} {k:AV->Prop} (hi:∀ v,i=some v->r=.val v) (h:zD C ops ρ g i r k):(ig ops ρ g=.bool true/\∃ v,r.yv C v/\k v)\/(ig ops ρ g=.bool false/\k (.aG [])):=by
 unfold zD at h
 cases g with
 | none =>
   cases i with
   | none=>exact .inl ⟨rfl,Fh r h⟩
   | some v=>rw [hi v rfl]; exact .inl ⟨rfl,v,rfl,h⟩
 | some jw=>simp only at h; rw [G2]; exact zC h
theorem wP {ρ:Env} {o:Op} {x:Operand} (hx:x ∈ o.operands.toList) {b:Nat} (hb:b ∈ dK (ρ.ev C x)):b ∈ Cv C ρ o:=List.mem_flatMap.2 ⟨x,hx,hb⟩
theorem pV (B:List Nat):∀ (l:List (Bool × Nat)) (ρ:Env) (U:St),oG C mu ops aw K Kp B l ρ U->lu C mu ops B aw K Kp l ρ U
 | [],_,_,h=>h
 | (true,i)::r,ρ,U,h=>by
   simp only [oG] at h
   split at h
   . exact h.elim
   . rename_i o ho
     split at h
     . exact h.elim
     . rename_i hq
       have key:∀ {P k:Prop},rdW (oJ o.op) P k->(oJ o.op=true->P)/\k:=fun {P k} h=>by
        cases hr:oJ o.op <;> rw [hr] at h <;> simp only [rdW] at h
        . exact ⟨fun h=>(by cases h),h⟩
        . exact ⟨fun _=>h.1,h.2⟩
       obtain ⟨hB,h⟩:=key h
       rcases tR (fun v hv=>Al hv _ _) h with ⟨hg,v,hv,hk⟩ | ⟨hg,hk⟩
       . rw [pk] at hv
         exact ⟨o,v,ho,.inl ⟨hg,hq,fun hr x hx b hb=>hB hr b (wP hx hb),hv⟩,pV B r _ _ hk⟩
       . exact ⟨o,.aG [],ho,.inr ⟨hg,rfl⟩,pV B r _ _ hk⟩
 | (false,i)::r,ρ,U,h=>by
   simp only [oG] at h
   simp only [lu,kT]
   split at h
   . exact h.elim
   . rename_i o ho
     rw [ho]
     simp only
     rw [pk] at h
     rcases Bs h with ⟨hg,h⟩ | ⟨hg,h⟩
     . rw [hg]
       exact ⟨fun _=>ay.wp_mono (fun v U hv=>⟨(Of (I:=cL B aw) hv).1,pV B r _ _ (Of (I:=cL B aw) hv).2⟩) _ h,fun h=>by cases h⟩
     . rw [hg]
       exact ⟨fun h=>(by cases h),fun _=>pV B r _ _ h⟩
theorem DW:∀ (l:List (Bool × Nat)) (B:List Nat) (ρ:Env) (U:St),Gc C mu ops aw K Kp l B ρ U->∃ B',(∀ b ∈ B,b ∈ B')/\lu C mu ops B' aw K Kp l ρ U
 | [],B,_,_,h=>⟨B,fun _ h=>h,h⟩
 | (true,i)::r,B,ρ,U,h=>by
   simp only [Gc] at h
   split at h
   . exact h.elim
   . rename_i o ho
     split at h
     . exact h.elim
     . rename_i hq
       rcases tR (fun v hv=>Al hv _ _) h with ⟨hg,v,hv,hk⟩ | ⟨hg,hk⟩
       . rw [pk] at hv
         obtain ⟨B',hB,hA⟩:=DW r _ _ _ hk
         refine ⟨B',fun b hb=>hB b ?_,o,v,ho,.inl ⟨hg,hq,fun hr x hx b hb=>hB b ?_,hv⟩,hA⟩
         . split
           . exact List.mem_append_right _ hb
           . exact hb
         . rw [hr]; exact List.mem_append_left _ (wP hx hb)
       . obtain ⟨B',hB,hA⟩:=DW r _ _ _ hk
         refine ⟨B',fun b hb=>hB b ?_,o,.aG [],ho,.inr ⟨hg,rfl⟩,hA⟩
         split
         . exact List.mem_append_right _ hb
         . exact hb
 | (false,i)::r,B,ρ,U,h=>⟨B,fun _ h=>h,pV B _ _ _ h⟩
end
def F7:List (Bool × Nat)->Bool
 | []=>true
 | (true,_)::r=>F7 r
 | (false,_)::r=>r.isEmpty
theorem DV {C:cT} {mu:List Nat} {ops:Array Oper} {aw:St} {K:Env->St->Prop} {Kp:AV->St->Prop}:∀ (l:List (Bool × Nat)) (B:List Nat) (ρ:Env) (U:St),F7 l=true->xu C mu ops aw K Kp l ρ U->∃ B',(∀ b ∈ B,b ∈ B')/\lu C mu ops B' aw K Kp l ρ U
 | [],B,_,_,_,h=>⟨B,fun _ h=>h,h⟩
 | (true,i)::r,B,ρ,U,hl,h=>by
   simp only [xu] at h
   split at h
   . exact h.elim
   . rename_i o ho
     split at h
     . exact h.elim
     . rename_i hq
       rcases tR (fun v hv=>Al hv _ _) h with ⟨hg,v,hv,hk⟩ | ⟨hg,hk⟩
       . rw [pk] at hv
         obtain ⟨B',hB,hA⟩:=DV r (Cv C ρ o.op++B) _ _ hl hk
         exact ⟨B',fun b hb=>hB b (List.mem_append_right _ hb),o,v,ho,.inl ⟨hg,hq,fun hr x hx b hb=>hB b (List.mem_append_left _ (wP hx hb)),hv⟩,hA⟩
       . obtain ⟨B',hB,hA⟩:=DV r B _ _ hl hk
         exact ⟨B',hB,o,.aG [],ho,.inr ⟨hg,rfl⟩,hA⟩
 | (false,i)::r,B,ρ,U,hl,h=>by
   obtain rfl:r=[]:=by simpa [F7] using hl
   refine ⟨B,fun _ h=>h,?_⟩
   simp only [xu] at h
   simp only [lu,kT]
   split at h
   . rename_i o Kc ho
     rw [ho]
     simp only
     rw [pk] at h
     rcases Bs h with ⟨hg,h⟩ | ⟨hg,h⟩
     . rw [hg]
       exact ⟨fun _=>ay.wp_mono (fun v U hv=>⟨.inl Kc,hv⟩) _ h,fun h=>by cases h⟩
     . rw [hg]
       exact ⟨fun h=>(by cases h),fun _=>h⟩
   . exact h.elim
def zu (C:cT) (mu:List Nat) (ops:Array Oper) (aw:St) (Kp:AV->St->Prop) (B:List Nat) (o:Oper) (K:Env->St->Prop) (ρ:Env) (U:St):Prop :=
 gW ops ρ o.guard ((sI C (nM mu o) o.op ρ U).wp C U (fun v U=>cL B aw U/\K (ρ.eB o.dst v) U) Kp) (K (ρ.eB o.dst (.aG [])) U)
def Mz (C:cT) (mu:List Nat) (ops:Array Oper) (aw:St) (K:Env->St->Prop) (Kp:AV->St->Prop) (B:List Nat) (i j:Nat) (post:List (Bool × Nat)) (ρ:Env) (U:St):Prop:=match ops[i]?,ops[j]? with
 | some oi,some oj=>zu C mu ops aw Kp B oi (fun ρ U=>zu C mu ops aw Kp B oj (fun ρ U=>oG C mu ops aw K Kp B post ρ U) ρ U) ρ U /\
    zu C mu ops aw Kp B oj (fun ρ U=>zu C mu ops aw Kp B oi (fun ρ U=>oG C mu ops aw K Kp B post ρ U) ρ U) ρ U
 | _,_=>False
def My (ops:Array Oper) (pre:List (Bool × Nat)) (i j:Nat) (post:List (Bool × Nat)):Bool :=
 (match oh ops pre (Array.replicate ops.size false) with
   | some l=>(Region.ready .any ops l == [i,j]) && ((Region.ready .any ops (l.setIfInBounds i true) == [j]) && ((Region.ready .any ops (l.setIfInBounds j true) == [i]) && (!Nat.beq i j && iD ops post ((l.setIfInBounds i true).setIfInBounds j true))))
   | none=>false) && Nat.beq (pre.length+(post.length+2)) ops.size
section
variable {C:cT} {mu:List Nat} {ops:Array Oper} {aw:St} {K:Env->St->Prop} {Kp:AV->St->Prop} {B:List Nat}
theorem Ff {i:Nat} {o:Oper} {K0 K1:Env->St->Prop} {I':St->Prop} (ho:ops[i]?=some o) (hI:∀ U,cL B aw U->I' U) (hk:∀ ρ U,cL B aw U->K0 ρ U->K1 ρ U) {ρ:Env} {U:St} (hs:cL B aw U) (h:zu C mu ops aw Kp B o K0 ρ U):kT C mu ops I' i K1 Kp ρ U:=by
 unfold kT
 rw [ho]
 dsimp only
 unfold zu at h
 rw [pk] at h
 rcases Bs h with ⟨hg,h⟩ | ⟨hg,h⟩
 . rw [hg]
   exact ⟨fun _=>ay.wp_mono (fun v U hv=>⟨hI _ hv.1,hk _ _ hv.1 hv.2⟩) _ h,fun h=>by cases h⟩
 . rw [hg]
   exact ⟨fun h=>(by cases h),fun _=>hk _ _ hs h⟩
theorem Xk {i j:Nat} {post:List (Bool × Nat)} {p9:Array Bool} (h1:Region.ready .any ops p9=[i,j]) (h2:Region.ready .any ops (p9.setIfInBounds i true)=[j]) (h3:Region.ready .any ops (p9.setIfInBounds j true)=[i]) (qg:i ≠ j)
 (h4:iD ops post ((p9.setIfInBounds i true).setIfInBounds j true)=true) {ρ:Env} {U:St} (hD:Dn ops p9) (hI:cL B aw U) (h:Mz C mu ops aw K Kp B i j post ρ U):mb C mu ops (cL B aw) K Kp (post.length+2) p9 ρ U:=by
 unfold Mz at h
 split at h
 . rename_i oi oj AU oe
   have key:∀ (a b:Nat) (oa ob:Oper),ops[a]?=some oa->ops[b]?=some ob->a ∈ Region.ready .any ops p9->Region.ready .any ops (p9.setIfInBounds a true)=[b]->iD ops post ((p9.setIfInBounds a true).setIfInBounds b true)=true ->
    zu C mu ops aw Kp B oa (fun ρ U=>zu C mu ops aw Kp B ob (fun ρ U=>oG C mu ops aw K Kp B post ρ U) ρ U) ρ U ->
    kT C mu ops (Ix ops (cL B aw) a) a (mb C mu ops (cL B aw) K Kp (post.length+1) (p9.setIfInBounds a true)) Kp ρ U:=by
    intro a b oa ob hoa hob hra hrb ll hw
    refine Ff hoa (fun _ h=>.inr h) (fun ρ1 aQ vQ hw1=>?_) hI hw
    refine ⟨fun h0=>(by rw [hrb] at h0; cases h0),fun c hc=>?_⟩
    have Ey:=hc
    rw [hrb,kH] at hc
    subst hc
    exact Ff hob (fun _ h=>.inr h) (fun qF bg rT hw2=>rW post _ qF bg ll ((hD.set hra).set Ey) (.inr rT) (pV B _ _ _ hw2)) vQ hw1
   refine ⟨fun h0=>(by rw [h1] at h0; cases h0),fun c hc=>?_⟩
   have Ey:=hc
   rw [h1] at hc
   simp only [cF,List.not_mem_nil,or_false] at hc
   rcases hc with rfl | rfl
   . exact key _ _ _ _ AU oe Ey h2 h4 h.1
   . exact key _ _ _ _ oe AU Ey h3 (by rw [Array.setIfInBounds_comm _ _ qg.symm]; exact h4) h.2
 . exact h.elim
theorem sN {I:St->Prop} {Kp ya:AV->St->Prop} (hp:∀ v U,Kp v U->ya v U):∀ (n:Nat) (listed:Array Bool) (ρ:Env) (U:St),mb C mu ops I K Kp n listed ρ U->mb C mu ops I K ya n listed ρ U
 | 0,_,_,_,h=>h
 | n+1,listed,ρ,U,h=>⟨h.1,fun i hi=>by
   have h2:=h.2 i hi
   unfold kT at h2 ⊢
   split
   . rename_i ho; rw [ho] at h2; exact sN hp n _ _ _ h2
   . rename_i o ho
     rw [ho] at h2
     dsimp only at h2 ⊢
     cases hg:ig ops ρ o.guard <;> rw [hg] at h2 <;> simp only [ao] at h2 ⊢
     exact ⟨fun e=>ay.wp_mono (fun v U hv=>⟨hv.1,sN hp n _ _ _ hv.2⟩) _ (ay.B5 hp _ (h2.1 e)),fun e=>sN hp n _ _ _ (h2.2 e)⟩⟩
theorem bI.O2 {nt id:Nat} {ro:Ro} {Q:Ex->Env->St->Prop} {ρ:Env} {U:St} (pre:List (Bool × Nat)) (i j:Nat) (post:List (Bool × Nat)) (hm:C.P.follows .mixedOrders=true) (cS:kQ nt ops=true) (hp:My ops pre i j post=true) (UL:∀ v U,Kp v U->yb Q v U)
 (h:oG C mu ops U (fun dY af=>Mz C mu ops U (KQ Q) Kp B i j post dY af) Kp B pre ρ U):bI C nt ro (.region id ops true) Q ρ U:=by
 simp only [My,bX] at hp
 obtain ⟨h1,h2⟩:=hp
 have h2:=eQ h2
 split at h1
 . rename_i l hl
   simp only [bX,beq_iff_eq,Bool.not_eq_true'] at h1
   obtain ⟨k1,k2,k3,k4,k5⟩:=h1
   have qg:i ≠ j:=fun e=>by subst e; simp at k4
   refine bI.zH mu (cL B U) hm cS (sN UL _ _ _ _ ?_)
   have:=xr (fun dY af hD hI hw=>Xk k1 k2 k3 qg k5 hD hI hw) pre _ ρ U hl (Dn.none _ _) (fun _ _=>rfl) (pV B _ _ _ h)
   rw [h2] at this
   exact this
 . cases h1
end
structure Qr where
 CQ:(St->Prop)->St->Prop
 n:St->Prop
 e:Nat->St->Prop
 r:St->Prop
def sx:Nat->Type
 | 0=>Qr->St->Prop
 | n+1=>AV->sx n
def sx.app:(n:Nat)->sx n->List AV->Qr->St->Prop
 | 0,f,_,q,U=>f q U
 | n+1,f,x::xs,q,U=>sx.app n (f x) xs q U
 | n+1,f,[],q,U=>sx.app n (f .any) [] q U
def sx.lam:(n:Nat)->(List AV->Qr->St->Prop)->sx n
 | 0,F=>fun q U=>F [] q U
 | n+1,F=>fun x=>sx.lam n (fun xs q U=>F (x::xs) q U)
theorem sx.pM:∀ (n:Nat) (F:List AV->Qr->St->Prop) (xs:List AV) (q:Qr) (U:St),xs.length=n->sx.app n (sx.lam n F) xs q U=F xs q U
 | 0,F,[],q,U,_=>rfl
 | n+1,F,x::xs,q,U,h=>sx.pM n (fun xs U=>F (x::xs) U) xs q U (by simpa using h)
 | 0,F,_::_,q,U,h=>by simp at h
 | n+1,F,[],q,U,h=>by simp at h
def fp.st (L:fp) (s:LoopState) (p:Option Code):fp:={ L with state:=s,fM:=p }
def ae0 (o:Nat) (k:St->Prop) (U:St):Prop:=∃ L,U.loop o=some L/\L.state=.ready/\k (U.set o (.loop { L with state:=.busy }))
def ae4 (o:Nat) (R:cO->St->Prop):Qr where
 CQ:=ae0 o
 n:=fun U=>∃ L,U.loop o=some L/\R (.ret (.bool true)) (U.set o (.loop { L with state:=.ready,fM:=none }))
 e:=fun id U=>∃ L,U.loop o=some L/\R (.ret (.bool false)) (U.set o (.loop { L with state:=.done,fM:=some (.exit id) }))
 r:=fun U=>∃ L,U.loop o=some L/\R (.ret (.bool false)) (U.set o (.loop { L with state:=.done,fM:=some .ret }))
def H3 (o:Nat) (Kn:St->Prop) (Ke:Nat->St->Prop) (Kr:St->Prop) (Kp:AV->St->Prop):cO->St->Prop
 | .ret _,af=>∃ L,af.loop o=some L/\L.state ≠ .busy/\(match L.fM with
   | none=>Kn (af.del o)
   | some .ret=>Kr (af.del o)
   | some (.exit id)=>Ke id (af.del o)
   | _=>False)
 | .panic x,af=>Kp x af
def qt (C:cT) (np:Nat) (fv:AV) (U:St) (B:sx np) (Kn:St->Prop) (Ke:Nat->St->Prop) (Kr:St->Prop) (Kp:AV->St->Prop):Prop :=
 match fv with
 | .func (.func tn) first cap=>gj C.P tn=true/\∀ (o:Nat) (L:fp),U.dw o->L.state=.ready->L.fM=none ->
   (∀ (args:List AV) (aQ:St) (R:cO->St->Prop) (L1:fp),args.length=np->aQ.loop o=some L1->L1.st .ready none=L->sx.app np B args (ae4 o R) aQ->ma C o args aQ R) ->
   ag C tn (first++[.qI o]++cap) (U.new o (.loop L)) (H3 o Kn Ke Kr Kp)
 | _=>False
def GO (b:Bool) (A B:Prop):Prop:=match b with
 | true=>A
 | false=>B
def gR (n:Nat) (J:Fn n) (B:Fn n->Prop):Prop:=∀ j:Fn n,Fn.imp n J j->B j
def di (n:Nat) (init:List AV) (U:St) (B:Fn n->Fn n):Prop :=
 ∃ I:Nat->Fn n,(∃ m,Fn.app n (I m) init U)/\∀ m,Fn.imp n (I m) (B (Fn.lam n fun vs U=>∃ m',m' < m/\Fn.app n (I m') vs U))
inductive An where
 | z
 | sq (live:Option (List Nat)) (a b:An)
 | cd (a b:An)
 | bk (a:An)
 | lp (live:List Nat) (a:An)
 | rg (mu pf:List Nat) (dm:Option Pl)
 | rb (mu:List Nat) (dm:Pl)
 | rl (mu:List Nat) (dm:Pl)
 | r2 (mu:List Nat) (pre:List (Bool × Nat)) (i j:Nat) (post:List (Bool × Nat))
 | rf (a b:An)
def nx (C:cT):Code->An->Qx->Env->St->Prop
 | .skip,_,Q,ρ,U=>Q.n ρ U
 | .exit i,_,Q,ρ,U=>Q.e i ρ U
 | .ret,_,Q,ρ,U=>Q.r ρ U
 | .seq a b,.sq none x y,Q,ρ,U=>nx C a x { Q with n:=fun ρ U=>nx C b y Q ρ U } ρ U
 | .seq a b,.sq (some live) x y,Q,ρ,U=>gR live.length (Fn.lam live.length fun vs U=>nx C b y Q (DH live vs) U)
    fun j=>nx C a x { Q with n:=fun ρ U=>Fn.app live.length j (live.map ρ.get) U } ρ U
 | .cond c a b,.cd x y,Q,ρ,U=>ao (ρ.ev C c) (nx C a x Q ρ U) (nx C b y Q ρ U)
 | .block i a,.bk x,Q,ρ,U=>nx C a x { Q with e:=fun k ρ U=>GO (Nat.beq k i) (Q.n ρ U) (Q.e k ρ U) } ρ U
 | .loop a,.lp live x,Q,ρ,U=>di live.length (live.map ρ.get) U fun lp=>Fn.lam live.length fun vs U =>
    nx C a x { Q with n:=fun ρ U=>Fn.app live.length lp (live.map ρ.get) U } (DH live vs) U
 | .region _ ops false,.rg mu pf none,Q,ρ,U=>u7 C mu pf ops ops.toList ρ U Q.n Q.p
 | .region _ ops true,.rg mu pf (some dm),Q,ρ,U=>Gc C mu ops U Q.n Q.p dm.steps [] ρ U
 | .region _ ops true,.rb mu dm,Q,ρ,U=>∃ B:List Nat,oG C mu ops U Q.n Q.p B dm.steps ρ U
 | .region _ ops true,.rl mu dm,Q,ρ,U=>xu C mu ops U Q.n Q.p dm.steps ρ U
 | .region _ ops true,.r2 mu pre i j post,Q,ρ,U=>∃ B:List Nat,oG C mu ops U (fun dY af=>Mz C mu ops U Q.n Q.p B i j post dY af) Q.p B pre ρ U
 | .rangeFunc f ps a b,.rf x y,Q,ρ,U=>qt C ps.size (ρ.ev C f) U (sx.lam ps.size fun args qr U=>nx C a x
    { n:=fun ρ U=>qr.CQ (fun U=>nx C b y { n:=fun _ U=>qr.n U,e:=fun i _ U=>qr.e i U,r:=fun _ U=>qr.r U,p:=fun _ _=>False } ρ U) U,e:=fun _ _ _=>False,r:=fun _ _=>False,p:=fun _ _=>False }
    ⟨xz ρ.get ps.toList args⟩ U) (fun U=>Q.n ρ U) (fun i U=>Q.e i ρ U) (fun U=>Q.r ρ U) (fun x U=>Q.p x U)
 | _,_,_,_,_=>False
def lU (nt:Nat):Bool->Code->An->Bool
 | _,.skip,_=>true
 | _,.exit _,_=>true
 | _,.ret,_=>true
 | top,.seq a b,.sq _ x y=>lU nt top a x && lU nt top b y
 | top,.cond _ a b,.cd x y=>lU nt top a x && lU nt top b y
 | top,.block _ a,.bk x=>lU nt top a x
 | top,.loop a,.lp _ x=>lU nt top a x
 | _,.region _ ops false,.rg _ _ none=>kQ nt ops
 | _,.region _ ops true,.rg _ _ (some dm)=>kQ nt ops && HV ops dm
 | _,.region _ ops true,.rb _ dm=>kQ nt ops && HV ops dm
 | _,.region _ ops true,.rl _ dm=>kQ nt ops && (HV ops dm && F7 dm.steps)
 | _,.region _ ops true,.r2 _ pre i j post=>kQ nt ops && My ops pre i j post
 | top,.rangeFunc _ ps a b,.rf x y=>top && ps.toList.all (fun t=>Nat.blt t nt) && lU nt false a x && lU nt false b y
 | _,_,_=>false
theorem Ab {C:cT} {nt:Nat} (hm:C.P.follows .mixedOrders=true):∀ (c:Code) (an:An) (top:Bool) (ro:Ro) (Q:Qx) (ρ:Env) (U:St),lU nt top c an=true->(top=true->ro=.fn) ->
 nx C c an Q ρ U->bI C nt ro c Q.q ρ U:=by
 intro c
 induction c with
 | skip=>intro an top ro Q ρ U cS ht h; exact bI.skip h
 | exit i=>intro an top ro Q ρ U cS ht h; exact bI.exit h
 | ret=>intro an top ro Q ρ U cS ht h; exact bI.ret h
 | seq a b zd Kl =>
   intro an top ro Q ρ U cS ht h
   cases an <;> simp only [lU,bC,bX] at cS
   rename_i live x y
   refine bI.seq ?_
   cases live with
   | none =>
     simp only [nx] at h
     refine (zd x top ro _ ρ U cS.1 ht h).mono fun e ρ U he=>?_
     cases e <;> first | exact Kl y top ro Q ρ U cS.2 ht he | exact he
   | some live =>
     simp only [nx] at h
     have:=h (Fn.lam live.length fun vs U=>bI C nt ro b Q.q (DH live vs) U) (Fn.JT fun xs U hl hx=>by
      rw [Fn.pM _ _ _ _ hl] at hx ⊢
      exact Kl y top ro Q _ _ cS.2 ht hx)
     refine (zd x top ro _ ρ U cS.1 ht this).mono fun e ρ U he=>?_
     cases e with
     | normal =>
       have mh:Fn.app live.length (Fn.lam live.length fun vs U=>bI C nt ro b Q.q (DH live vs) U) (live.map ρ.get) U:=he
       rw [Fn.pM _ _ _ _ (by simp)] at mh
       exact bI.KU mh (Eo ρ live)
     | exit i=>exact he
     | ret=>exact he
     | panic x=>exact he
 | cond c a b zd Kl =>
   intro an top ro Q ρ U cS ht h
   cases an <;> simp only [lU,bC,bX] at cS
   rename_i x y
   simp only [nx] at h
   cases hc:ρ.ev C c <;> rw [hc] at h <;> simp only [ao] at h
   exact bI.cond hc (fun e=>zd x top ro Q ρ U cS.1 ht (h.1 e)) (fun e=>Kl y top ro Q ρ U cS.2 ht (h.2 e))
 | block i a zd =>
   intro an top ro Q ρ U cS ht h
   cases an <;> simp only [lU,bC] at cS
   rename_i x
   simp only [nx] at h
   refine bI.block ((zd x top ro _ ρ U cS ht h).mono fun e ρ U he=>?_)
   cases e with
   | exit k =>
     have mh:GO (Nat.beq k i) (Q.n ρ U) (Q.e k ρ U):=he
     simp only [yF]
     cases hb:Nat.beq k i with
     | true=>rw [hb] at mh; rw [if_pos (eQ hb)]; exact mh
     | false=>rw [hb] at mh; rw [if_neg (fun e=>by subst e; simp at hb)]; exact mh
   | normal=>exact he
   | ret=>exact he
   | panic x=>exact he
 | loop a zd =>
   intro an top ro Q ρ U cS ht h
   cases an <;> simp only [lU,bC] at cS
   rename_i live x
   simp only [nx] at h
   obtain ⟨I,⟨m,h0⟩,hr⟩:=h
   refine bI.loop (fun m ρ U=>Fn.app live.length (I m) (live.map ρ.get) U) (n:=m) h0 fun m ρ U hI=>?_
   have:=Fn.Ko (hr m) _ _ (by simp) hI
   rw [Fn.pM _ _ _ _ (by simp)] at this
   refine bI.KU ((zd x top ro _ _ _ cS ht this).mono fun e dY af he=>?_) (Eo ρ live)
   cases e with
   | normal =>
     have mh:Fn.app live.length (Fn.lam live.length fun vs U=>∃ m',m' < m/\Fn.app live.length (I m') vs U) (live.map dY.get) af:=he
     rw [Fn.pM _ _ _ _ (by simp)] at mh
     exact mh
   | exit i=>exact he
   | ret=>exact he
   | panic x=>exact he
 | region id ops draw =>
   intro an top ro Q ρ U cS ht h
   have kp:yb Q.q=fun x U=>∀ ρ:Env,Q.p x U:=rfl
   cases draw with
   | false =>
     cases an with
     | rg mu pf dm =>
       cases dm with
       | none =>
         simp only [lU] at cS
         simp only [nx] at h
         refine bI.region mu cS ?_
         have h2:=we _ ρ U h
         exact uE (fun _ _ h=>h) (fun v U hv ρ=>hv) _ h2
       | some dm=>simp [lU] at cS
     | _=>simp [lU] at cS
   | true =>
     cases an with
     | rg mu pf dm =>
       cases dm with
       | none=>simp [lU] at cS
       | some dm =>
         simp only [lU,bX] at cS
         simp only [nx] at h
         obtain ⟨B,_,hA⟩:=DW _ _ _ _ h
         refine bI.sW mu B dm.steps hm cS.1 (DU cS.2) ?_
         exact jB (fun _ _ h=>h) (fun v U hv ρ=>hv) _ hA
     | rb mu dm =>
       simp only [lU,bX] at cS
       simp only [nx] at h
       obtain ⟨B,hB⟩:=h
       refine bI.sW mu B dm.steps hm cS.1 (DU cS.2) ?_
       exact jB (fun _ _ h=>h) (fun v U hv ρ=>hv) _ (pV B _ _ _ hB)
     | rl mu dm =>
       simp only [lU,bX] at cS
       simp only [nx] at h
       obtain ⟨B,_,hA⟩:=DV _ [] _ _ cS.2.2 h
       refine bI.sW mu B dm.steps hm cS.1 (DU cS.2.1) ?_
       exact jB (fun _ _ h=>h) (fun v U hv ρ=>hv) _ hA
     | r2 mu pre i j post =>
       simp only [lU,bX] at cS
       simp only [nx] at h
       obtain ⟨B,hB⟩:=h
       exact bI.O2 (mu:=mu) (B:=B) pre i j post hm cS.1 cS.2 (fun v U hv ρ=>hv) hB
     | _=>simp [lU] at cS
 | rangeFunc f ps a b zd Kl =>
   intro an top ro Q ρ U cS ht h
   cases an <;> simp only [lU,bC,bX] at cS
   rename_i x y
   obtain ⟨⟨⟨h1,h2⟩,h3⟩,h4⟩:=cS
   have Hp:=ht h1
   subst Hp
   simp only [nx,qt] at h
   split at h
   . rename_i tn first cap hf
     obtain ⟨tA,h⟩:=h
     refine bI.rangeFunc 0 hf tA fun o ho=>?_
     refine (h o ⟨ρ.get,nt,ps,a,b,.ready,none,0⟩ ho rfl rfl ?_).mono fun r af hr=>?_
     . intro args aQ R L1 hl jc gD hB
       obtain ⟨r1,r2,r3,r4,r5,r6,r7,r8⟩:=L1
       simp only [fp.st,fp.mk.injEq,true_and] at gD
       obtain ⟨e1,e2,e3,e4,e5,e6⟩:=gD
       subst e1 e2 e3 e4 e5 e6
       rw [sx.pM _ _ _ _ _ hl] at hB
       refine ma.HR jc (by simpa using hl) (fun t ht=>by
        have:=ep.1 h2 t ht
        exact Nat.le_of_ble_eq_true this) ?_
       refine (zd x false (.round o) _ _ _ h3 (fun h=>by cases h) hB).mono fun e dY af he=>?_
       cases e with
       | normal =>
         obtain ⟨L,k1,k2,k3⟩:=he
         refine ⟨L,k1,k2,(Kl y false (.round o) _ _ _ h4 (fun h=>by cases h) k3).mono fun e qF bg he=>?_⟩
         cases e with
         | normal=>exact he
         | exit i=>exact he
         | ret=>exact he
         | panic x=>exact he
       | exit i=>exact he
       | ret=>exact he
       | panic x=>exact he
     . cases r with
       | ret v =>
         obtain ⟨L,k1,k2,k3⟩:=hr
         refine ⟨L,k1,k2,?_⟩
         split at k3
         . rename_i hp; rw [hp]; exact k3
         . rename_i hp; rw [hp]; exact k3
         . rename_i hp; rw [hp]; exact k3
         . exact k3.elim
       | panic v=>exact hr
   . exact h.elim
 | scope a zd=>intro an top ro Q ρ U cS; cases an <;> simp [lU] at cS
 | label l=>intro an top ro Q ρ U cS; cases an <;> simp [lU] at cS
 | goto l=>intro an top ro Q ρ U cS; cases an <;> simp [lU] at cS
 | refuse w=>intro an top ro Q ρ U cS; cases an <;> simp [lU] at cS
def bF (vt:Option (Bool × Nat)) (p:AV) (U:St) (k:AV->Prop):Prop:=match ah vt p U with
 | .val v=>k v
 | @ay.cond q _ (.val v)=>q/\k v
 | _=>False
def D0 (P:Program) (ρ:Env) (U:St):List ResultVar->(List AV->Prop)->Prop
 | [],k=>k []
 | .tmp t::rs,k=>D0 P ρ U rs fun vs=>k (ρ.get t::vs)
 | .cell t ty::rs,k=>bF (nO P ty) (ρ.get t) U fun v=>D0 P ρ U rs fun vs=>k (v::vs)
theorem wj {P:Program} {ρ:Env} {U:St}:∀ (l:List ResultVar) (k:List AV->Prop),D0 P ρ U l k->vd P ρ U l k
 | [],_,h=>h
 | .tmp t::rs,k,h=>wj rs _ h
 | .cell t ty::rs,k,h=>by
   simp only [D0,bF] at h
   simp only [vd,Ap]
   rw [show uz P ty (ρ.get t) U=ah (nO P ty) (ρ.get t) U from rfl]
   split at h
   . rename_i hl; rw [hl]; exact wj rs _ h
   . rename_i hl; rw [hl]; exact ⟨h.1,wj rs _ h.2⟩
   . exact h.elim
def aj (R:cO->St->Prop) (x:AV) (U:St):Prop:=∃ x' af,se x U x' af/\R (.ret x') af
def aa (R:cO->St->Prop) (x:AV) (U:St):Prop:=R (.panic x) U
def afb (P:Program) (fn:Func) (R:cO->St->Prop):Qx where
 n:=fun ρ U=>D0 P ρ U fn.results.toList fun vs=>aj R (vi vs) U
 e:=fun _ _ _=>False
 r:=fun ρ U=>D0 P ρ U fn.results.toList fun vs=>aj R (vi vs) U
 p:=aa R
def K6 (C:cT) (fn:Func) (an:An) (args:List AV) (R:cO->St->Prop) (U:St):Prop:=match fn.body with
 | some c=>nx C c an (afb C.P fn R) (Env.jG args) U
 | none=>False
def okF (fn:Func) (an:An) (n:Nat):Bool:=match fn.body with
 | some c=>lU fn.ntmps true c an && Nat.ble n fn.ntmps
 | none=>false
theorem ag.WH {C:cT} (hm:C.P.follows .mixedOrders=true) {f:FuncId} {fn:Func} (an:An) {args:List AV} {R:cO->St->Prop} {U:St} (hf:C.P.funcs[f]?=some fn) (cS:okF fn an args.length=true)
 (h:K6 C fn an args R U):ag C f args U R:=by
 unfold okF at cS
 unfold K6 at h
 split at cS
 . rename_i c hb
   rw [hb] at h
   simp only [bX] at cS
   refine ag.KD hf hb (Nat.le_of_ble_eq_true cS.2) ?_
   refine (Ab hm c an true .fn _ _ _ cS.1 (fun _=>rfl) h).mono fun e ρ U he=>?_
   cases e with
   | normal=>exact wj _ _ he
   | ret=>exact wj _ _ he
   | panic x=>exact he
   | exit i=>exact he
 . cases cS
theorem aj.mk {R:cO->St->Prop} {x:AV} {U:St} (h:R (.ret x) U):aj R x U:=⟨x,U,se.refl _ _,h⟩
end Go.Rip
namespace Go.Rip
open Go.RowKit
section
variable {C:cT} {U:St} {K:AV->St->Prop} {Kp:AV->St->Prop}
@[simp] theorem al (v:AV):(ay.val v).wp C U K Kp=K v U:=rfl
@[simp] theorem sd (v:AV) (b:Nat) (x:Live):(ay.ir v b x).wp C U K Kp=K v (U.set b x):=rfl
@[simp] theorem pq (k:NV) (x:Live):(ay.new k none x).wp C U K Kp=∀ b,U.dw b->K (k.at b) (U.new b x):=rfl
@[simp] theorem afB (k:NV) (d:Nat) (x:Live):(ay.new k (some d) x).wp C U K Kp=∀ b,(U.del d).dw b->K (k.at b) ((U.del d).new b x):=rfl
@[simp] theorem kO (f:FuncId) (args:List AV):(ay.enter f args).wp C U K Kp=ag C f args U (aq K Kp):=rfl
@[simp] theorem x7 (f:Nat) (args:List AV):(ay.yield f args).wp C U K Kp=ma C f args U (aq K Kp):=rfl
@[simp] theorem afu (v:AV):(ay.panic v).wp C U K Kp=Kp v U:=rfl
@[simp] theorem wp_cond (p:Prop) [Decidable p] (r:ay):(ay.cond p r).wp C U K Kp=(p/\r.wp C U K Kp):=rfl
@[simp] theorem afD:ay.bad.wp C U K Kp=False:=rfl
@[simp] theorem afE (p:Prop) [Decidable p] (r s:ay):(if p then r else s).wp C U K Kp=if p then r.wp C U K Kp else s.wp C U K Kp:=by split <;> rfl
@[simp] theorem bL (x:AV):aq K Kp (.ret x) U=K x U:=rfl
@[simp] theorem abv (x:AV):aq K Kp (.panic x) U=Kp x U:=rfl
end
@[simp] theorem abw (b:Bool) (A B:Prop):ao (.bool b) A B=((b=true->A)/\(b=false->B)):=rfl
theorem bT (A B:Prop):ao (.bool true) A B=A:=by simp [ao]
theorem bG (A B:Prop):ao (.bool false) A B=B:=by simp [ao]
theorem bh (p:Prop) [Decidable p] (A B:Prop):ao (.bool (decide p)) A B=((p->A)/\(¬ p->B)):=by simp [ao]
@[simp] theorem aI (b w:Bool):ar (.bool b) w=.bool (b == w):=rfl
@[simp] theorem afw (w:Bool):ar (.aG []) w=.bool false:=rfl
@[simp] theorem iF (v:AV):D4 true v=v:=rfl
@[simp] theorem zM (v:AV):D4 false v=.aG []:=rfl
@[simp] theorem aB (C:cT) (b:Bool) (r:ay) (k:AV->Prop):ad C (.bool b) r k=eL C b r k:=rfl
@[simp] theorem qq (C:cT) (b:Bool) (v:AV) (k:AV->Prop):eL C b (.val v) k=k (D4 b v):=rfl
@[simp] theorem aby (C:cT) (b:Bool) (p:Prop) [Decidable p] (r:ay) (k:AV->Prop):eL C b (.cond p r) k=((b=true->p)/\eL C b r k):=rfl
@[simp] theorem aaB (C:cT) (b:Bool) (f:FuncId) (args:List AV) (k:AV->Prop):eL C b (.enter f args) k=∃ v,(b=true->Pure C f args v)/\k (D4 b v):=rfl
@[simp] theorem aZ (C:cT) (k:AV->Prop):∀ r:ay,(eL C false r k)=k (.aG [])
 | .val v=>rfl
 | @ay.cond _ _ r=>by simp only [eL]; rw [aZ C k r]; simp
 | .enter _ _=>by simp [eL]
 | .ir _ _ _=>by simp [eL]
 | .new _ _ _=>by simp [eL]
 | .lh _ _=>by simp [eL]
 | .yield _ _=>by simp [eL]
 | .panic _=>by simp [eL]
 | .bad=>by simp [eL]
@[simp] theorem ax (C:cT) (v:AV) (k:AV->Prop):aF C (.val v) k=k v:=rfl
@[simp] theorem lJ (C:cT) (p:Prop) [Decidable p] (r:ay) (k:AV->Prop):aF C (.cond p r) k=(p/\aF C r k):=rfl
@[simp] theorem aaD (C:cT) (f:FuncId) (args:List AV) (k:AV->Prop):aF C (.enter f args) k=∃ v,Pure C f args v/\k v:=rfl
theorem uH (C:cT) (k:AV->Prop):∀ r:ay,eL C true r k=aF C r k
 | .val v=>rfl
 | @ay.cond _ _ r=>by simp only [eL,aF,uH C k r]; simp
 | .enter _ _=>by simp [eL,aF]
 | .ir _ _ _=>by simp [eL,aF]
 | .new _ _ _=>by simp [eL,aF]
 | .lh _ _=>by simp [eL,aF]
 | .yield _ _=>by simp [eL,aF]
 | .panic _=>by simp [eL,aF]
 | .bad=>by simp [eL,aF]
@[simp] theorem bq (C:cT) (k:AV->Prop) (r:ay):eL C true r k=aF C r k:=uH C k r
theorem oI (C:cT) (k:AV->Prop) (r:ay) (p:Prop) [Decidable p]:eL C (decide p) r k=((p->aF C r k)/\(¬ p->k (.aG []))):=by
 by_cases h:p <;> simp [h]
theorem nD (C:cT) (k:AV->Prop) (r:ay) (p:Prop) [Decidable p]:eL C (!decide p) r k=((p->k (.aG []))/\(¬ p->aF C r k)):=by
 by_cases h:p <;> simp [h]
@[simp] theorem az (b:Bool) (x y:AV):aO (.bool b) x y=.val (if b=true then x else y):=rfl
@[simp] theorem ite_bool (b x y:Bool):(if b=true then AV.bool x else AV.bool y)=.bool (if b=true then x else y):=by split <;> rfl
section
variable (bt:BT) (l:Bool) (k:IntKind) (a b:Int) (s t:List UInt8)
@[simp] theorem aT:ai .eql bt l (.int k a) (.int k b)=.val (.bool (decide (a=b))):=by simp only [ai,if_true]; rfl
@[simp] theorem cg:ai .neq bt l (.int k a) (.int k b)=.val (.bool (!decide (a=b))):=by simp only [ai,if_true]; rfl
@[simp] theorem a7:ai .lss bt l (.int k a) (.int k b)=.val (.bool (decide (a < b))):=by simp only [ai,if_true]
@[simp] theorem fD:ai .leq bt l (.int k a) (.int k b)=.val (.bool (decide (a <= b))):=by simp only [ai,if_true]
@[simp] theorem cx:ai .gtr bt l (.int k a) (.int k b)=.val (.bool (decide (b < a))):=by simp only [ai,if_true,gt_iff_lt]
@[simp] theorem dT:ai .geq bt l (.int k a) (.int k b)=.val (.bool (decide (b <= a))):=by simp only [ai,if_true,ge_iff_le]
@[simp] theorem uT:ai .add bt l (.int k a) (.int k b)=iP k (a+b):=by simp only [ai,if_true]
@[simp] theorem gX:ai .sub bt l (.int k a) (.int k b)=iP k (a - b):=by simp only [ai,if_true]
@[simp] theorem IT:ai .mul bt l (.int k a) (.int k b)=iP k (a * b):=by simp only [ai,if_true]
@[simp] theorem IU:ai .quo bt l (.int k a) (.int k b)=.cond (b ≠ 0) (iP k (a.tdiv b)):=by simp only [ai,if_true]
@[simp] theorem IV:ai .rem bt l (.int k a) (.int k b)=.cond (b ≠ 0) (.val (.int k (a.tmod b))):=by simp only [ai,if_true]
@[simp] theorem fX:ai .eql bt l (.str s) (.str t)=.val (.bool (decide (s=t))):=by
 show ay.val (.bool (s == t))=_
 rw [show (s == t)=decide (s=t) from o3.2 (by simp)]
@[simp] theorem lF:ai .neq bt l (.str s) (.str t)=.val (.bool (!decide (s=t))):=by
 show ay.val (.bool (s != t))=_
 rw [show (s != t)=!decide (s=t) from o3.2 (by simp)]
@[simp] theorem abr:ai .add bt l (.str s) (.str t)=.cond (s.length+t.length <= 4294967296) (.val (.str (s++t))):=rfl
@[simp] theorem Y2 (x y:Bool) (i p:Bool) (f:Option (List FK)) (sl:Bool):ai .eql ⟨true,i,p,f,sl⟩ l (.bool x) (.bool y)=.val (.bool (x == y)):=by simp only [ai,if_true]
@[simp] theorem yD (x y:Bool) (i p:Bool) (f:Option (List FK)) (sl:Bool):ai .neq ⟨true,i,p,f,sl⟩ l (.bool x) (.bool y)=.val (.bool (x != y)):=by simp only [ai,if_true]
@[simp] theorem abt (x y:List AV) (i p q:Bool) (f:List FK) (sl:Bool):ai .eql ⟨q,i,p,some f,sl⟩ l (.agg x) (.agg y)=xW .bool (o7 f x y):=rfl
@[simp] theorem abu (x y:List AV) (i p q:Bool) (f:List FK) (sl:Bool):ai .neq ⟨q,i,p,some f,sl⟩ l (.agg x) (.agg y)=xW (fun r=>.bool (!r)) (o7 f x y):=rfl
@[simp] theorem adT (f:Bool->AV) (r:Bool):xW f (some r)=.val (f r):=rfl
@[simp] theorem dA (x:Bool):hY .not (.bool x)=.val (.bool (!x)):=rfl
@[simp] theorem gQ:iP .i64 a=.cond (uf a) (.val (.int .i64 a)):=rfl
@[simp] theorem Gw:iP .u8 a=.val (.int .u8 (IntKind.u8.wrap a)):=rfl
end
theorem aW {n:Int} (h1:-9223372036854775808 <= n) (h2:n <= 9223372036854775807):uf n:=⟨h1,h2⟩
section
variable (sz b o:Nat) (p v:AV) (U:St) (L l:List AV)
theorem tJ {U:St} {b:Nat} {L:List AV} (h:U.box b=some L) (n o:Nat):ah (some (false,n)) (.box b o) U=iH (L.drop o):=by simp [ah,mc,h]
theorem Ot {U:St} {b:Nat} {L:List AV} (h:U.box b=some L) (n o:Nat):ah (some (true,n)) (.box b o) U=.cond (n <= (L.drop o).length) (.val (.agg ((L.drop o).take n))):=by simp [ah,mc,h]
@[simp] theorem E8:ah (some (false,sz)) (.cU L) U=iH L:=rfl
@[simp] theorem acR:ah (some (true,sz)) (.cU L) U=.cond (sz <= L.length) (.val (.agg (L.take sz))):=rfl
@[simp] theorem gH (x:AV):iH (x::L)=.val x:=rfl
theorem mH {U:St} {b:Nat} {L:List AV} (h:U.box b=some L) (t:Bool) (n o:Nat) (v:AV):aU (some (t,n)) (.box b o) v U=.cond (v.eF=true/\(aC v).length=n/\o+n <= L.length) (.ir (.aG []) b (.box (aK L o (aC v)))):=by simp [aU,h]
@[simp] theorem eo:bR (.box b o)=.val (.box b o):=rfl
@[simp] theorem FU:bR (.cU L)=.val (.cU L):=rfl
@[simp] theorem Xo (f:Nat) (x y:List AV):bR (.func (.func f) x y)=.val (.func (.func f) x y):=rfl
@[simp] theorem ct (k:Nat):ae (some k) (.box b o)=.val (.box b (o+k)):=rfl
@[simp] theorem dB (k:Nat):ae (some k) (.cU L)=.val (.cU (L.drop k)):=rfl
@[simp] theorem acg (k n:Nat):yQ (some (k,false,n)) (.agg L)=iH (L.drop k):=rfl
@[simp] theorem ach (k n:Nat):yQ (some (k,true,n)) (.agg L)=.cond (k+n <= L.length) (.val (.agg ((L.drop k).take n))):=rfl
@[simp] theorem FR (e n:Nat) (c:nY) (k:IntKind) (j:Int) (at_:Option (Nat × TypeId × Nat)):au (some (e,sz)) at_ (.vec n c L) (.int k j)=.cond (0 <= j/\j < n) (.val (.cU (L.drop (j.toNat * sz)))):=rfl
@[simp] theorem aah (e n z t:Nat) (k:IntKind) (j:Int) (at_:Option (Nat × TypeId × Nat)):au (some (e,sz)) at_ (.ms b o n z t) (.int k j)=.cond (0 <= j/\j < n/\z=sz) (.val (.box b (o+j.toNat * sz))):=rfl
@[simp] theorem EO (s:List UInt8) (k:IntKind) (j:Int) (at_:Option (Nat × TypeId × Nat)) (vt:Option (Bool × Nat)):eh true at_ vt (.str s) (.int k j)=.cond (0 <= j/\j < s.length) (.val (.int .u8 (s.getD j.toNat 0).toNat)):=by simp [eh]
@[simp] theorem gm (s:List UInt8):br (some true) (.str s)=.val (.int .i64 s.length):=rfl
@[simp] theorem Am (n:Nat) (c:nY):br (some false) (.vec n c L)=.val (.int .i64 n):=rfl
@[simp] theorem Om (n z e:Nat):br (some false) (.ms b o n z e)=.val (.int .i64 n):=rfl
@[simp] theorem len_nil:br (some false) .aA=.val (.int .i64 0):=rfl
@[simp] theorem bH (k:Nat):aV (.aG L) k=iH (L.drop k):=rfl
@[simp] theorem adN:aC (.agg L)=L:=rfl
@[simp] theorem M1 (k:IntKind) (n:Int):aC (.int k n)=[.int k n]:=rfl
@[simp] theorem M3 (s:List UInt8):aC (.str s)=[.str s]:=rfl
@[simp] theorem ab9 (x:Bool):aC (.bool x)=[.bool x]:=rfl
@[simp] theorem adO:aC (.box b o)=[.box b o]:=rfl
@[simp] theorem adP (n:Nat) (c:nY):aC (.vec n c L)=[.vec n c L]:=rfl
@[simp] theorem ad4 (n z e:Nat):aC (.ms b o n z e)=[.ms b o n z e]:=rfl
@[simp] theorem Wi:aC .aA=[.aA]:=rfl
@[simp] theorem Y7:aC .bU=[.bU]:=rfl
@[simp] theorem acb (f:Go.Fn) (x y:List AV):aC (.func f x y)=[.func f x y]:=rfl
@[simp] theorem aca (x y:List AV):aC (.gb x y)=[.gb x y]:=rfl
@[simp] theorem ad3 (m:Nat):aC (.mp m)=[.mp m]:=rfl
@[simp] theorem aeU:(AV.agg L).eF=true:=rfl
@[simp] theorem aeW (k:IntKind) (n:Int):(AV.int k n).eF=true:=rfl
@[simp] theorem aeX (s:List UInt8):(AV.str s).eF=true:=rfl
@[simp] theorem adQ (x:Bool):(AV.bool x).eF=true:=rfl
@[simp] theorem aeV:(AV.box b o).eF=true:=rfl
@[simp] theorem aeY (n:Nat) (c:nY):(AV.vec n c L).eF=true:=rfl
@[simp] theorem afy (n z e:Nat):(AV.ms b o n z e).eF=true:=rfl
@[simp] theorem Xn:AV.aA.eF=true:=rfl
@[simp] theorem abx:AV.bU.eF=true:=rfl
@[simp] theorem adS (f:Go.Fn) (x y:List AV):(AV.func f x y).eF=true:=rfl
@[simp] theorem adR (x y:List AV):(AV.gb x y).eF=true:=rfl
@[simp] theorem afx (m:Nat):(AV.mp m).eF=true:=rfl
@[simp] theorem MV (h:v.eF=true):eO v=.cond True (.db (aC v)):=by simp [eO,h]
@[simp] theorem kf (s:List UInt8) (sl:Option (TypeId × Nat)) (lo hi:Option AV):dt true sl (.str s) lo hi=(match dR 0 lo,dR s.length hi with
 | some l,some h=>.cond (0 <= l/\l <= h/\h <= s.length) (.val (.str ((s.take h.toNat).drop l.toNat)))
 | _,_=>.bad):=by
 simp only [dt]
 cases dR 0 lo <;> cases dR (s.length:Int) hi <;> rfl
@[simp] theorem ic (d:Int):dR d none=some d:=rfl
@[simp] theorem eG (d:Int) (k:IntKind) (n:Int):dR d (some (.int k n))=some n:=rfl
@[simp] theorem uM (e n:Nat) (c:nY) (lo hi:Option AV) (st:Bool):dt st (some (e,sz)) (.vec n c L) lo hi=(match dR 0 lo,dR n hi with
 | some a,some b=>.cond (0 <= a/\a <= b/\b <= n) (.val (.vec (b.toNat - a.toNat) (sQ c hi) ((L.take (b.toNat * sz)).drop (a.toNat * sz))))
 | _,_=>.bad):=by
 simp only [dt]
 cases dR 0 lo <;> cases dR (n:Int) hi <;> rfl
@[simp] theorem afz (k:IntKind) (a b:Int):Bz (.int k a) (.int k b)=.val (.int k (if b > a then b else a)):=by simp [Bz]
@[simp] theorem Kx (k:IntKind) (a b:Int):u5 (.int k a) (.int k b)=.val (.int k (if b < a then b else a)):=by simp [u5]
end
theorem aj.eq {R:cO->St->Prop} {x y:AV} {U:St} (h:R (.ret y) U) (e:x=y):aj R x U:=by subst e; exact aj.mk h
theorem Pure.go {C:cT} {f:FuncId} {args:List AV} {x:AV} {K:AV->St->Prop} {Kp:AV->St->Prop} {U:St} (h:Pure C f args x) (hk:K x U):ag C f args U (aq K Kp):=h U _ hk
end Go.Rip
