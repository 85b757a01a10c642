import Derived.Test.YtnfpmiiopiinbaaGreatDoorZz
import Derived.Laws.AppendOwn
import Derived.Below
import Derived.Laws.StructEq
import Derived.Lib.ConvBytes
import Derived.RangeFuncLeaves
import Derived.RangeFuncCalls
import Derived.Laws.MakeOwn
set_option linter.all false
namespace Go.Rip
open Go.RowKit
structure Tok where
 n:Nat
 e:TypeId
 size:Nat
 deriving DecidableEq
inductive nj where
 | full
 | own (τ:Nat)
 | lC
inductive AV where
 | bool (b:Bool)
 | int (k:IntKind) (n:Int)
 | str (s:List UInt8)
 | bE
 | af
 | lK
 | eY
 | eu
 | box (b off:Nat)
 | dJ (l:List AV)
 | vec (n:Nat) (cap:nj) (l:List AV)
 | ms (b off n lx:Nat) (e:TypeId)
 | mp (m:Nat)
 | iK (ks vs:List AV)
 | func (fn:Fn) (first captured:List AV)
 | iface (t:TypeId) (v:AV)
 | agg (l:List AV)
 | az (l:List AV)
 | uK (o:Nat)
 | it (o:Nat)
 | any
instance:Inhabited AV:=⟨.any⟩
structure Place where
 aR:Nat
 e:TypeId
 size:Nat
structure iu where
 ρ:Nat->AV
 nt:Nat
 params:Array Tmp
 assign:Code
 body:Code
 state:LoopState
 iL:Option Code
 tag:Nat
inductive Live where
 | box (l:List AV)
 | tok (t:Tok)
 | mp (ks vs:List AV)
 | loop (L:iu)
 | iter (rest:List (AV×AV)) (cur:Option (AV×AV))
 | wV (t:TypeId) (l:List AV)
structure Gh where
 base:Nat
 w0:World
 place:Nat->Option Place
 du:Nat->Nat->Option Value
 cY:Nat->Option (Array MapEntry×Nat)
 res:Nat->Bool
def Gh.box(g:Gh)(b:Nat):Option Place:=g.place b
def Gh.tok(g:Gh)(b:Nat):Option (Nat×Nat):=(g.place b).map λp=>(p.aR,p.size)
def Gh.mp(g:Gh)(b:Nat):Option Nat:=(g.place b).map (·.aR)
variable {b:Nat}
def Gh.nC{g:Gh}{x:Nat×Nat}:g.tok b=some x↔∃p,g.place b=some p/\p.aR=x.1/\p.size=x.2:=by
 unfold Gh.tok;cases g.place b with
 | none=>simp
 | some p=>simp[Prod.ext_iff]
def Gh.sK{g:Gh}{x:Nat}:g.mp b=some x↔∃p,g.place b=some p/\p.aR=x:=by
 unfold Gh.mp;cases g.place b with
 | none=>simp
 | some p=>simp
def ot(g:Gh)(aR off:Nat)(vs:List Value):Prop:=∀i u,vs[i]?=some u->g.du aR (off+i)=some u
def yI(g:Gh)(cap:nj)(aR off n c:Nat):Prop :=
 match cap with
 | .full=>c=n
 | .own τ=>off=0/\g.tok τ=some (aR,c)
 | .lC=>True
def lZ:AV->AV->Bool
 | .int k a,.int k' b=>decide (k=k')&&decide (a<b)
 | .str a,.str b=>decide (a<b)
 | _,_=>false
def sy(ks:List AV):Prop:=ks.Pairwise (λa b=>lZ a b)
def nD(es:Array MapEntry)(clock:Nat):Prop:=(es.toList.map (·.born)).Nodup/\∀e∈es.toList,e.born<clock
mutual
def aB(g:Gh):AV->Value->Prop
 | .bool b,v=>v=.bool b
 | .int k n,v=>v=.int k n
 | .str s,v=>v=.string ⟨s.toArray⟩
 | .bE,v=>v=.pointer none
 | .af,v=>v=.slice none 0 0
 | .lK,v=>v=.map none
 | .eY,v=>v=.nilFunc
 | .eu,v=>v=.nilIface
 | .box b off,v=>∃x,g.box b=some x/\v=.pointer (some ⟨x.aR,off,none⟩)
 | .dJ l,v=>∃aR off vs,v=.pointer (some ⟨aR,off,none⟩)/\ot g aR off vs/\aJ g l vs
 | .vec n cap l,v=>∃aR off c vs,v=.slice (some ⟨aR,off,none⟩) n c/\n<=c/\c<=maxLen/\yI g cap aR off n c/\ot g aR off vs/\aJ g l vs
 | .ms b off n lx e,v=>∃x c,g.box b=some x/\v=.slice (some ⟨x.aR,off,none⟩) n c/\n<=c/\c<=maxLen/\off+c*lx=x.size/\x.e=e
 | .mp m,v=>∃r,g.mp m=some r/\v=.map (some r)
 | .iK ks vs,v=>∃r es clock,∃l:List MapEntry,v=.map (some r)/\g.cY r=some (es,clock)/\l.Perm es.toList/\sy ks/\aJ g ks (l.map (·.key))/\aJ g vs (l.map (·.val))
 | .func fn first captured,v=>∃fs cs,v=.func fn (List.toArray fs) (List.toArray cs)/\aJ g first fs/\aJ g captured cs
 | .iface t x,v=>∃u,v=.iface t u/\aB g x u
 | .agg l,v=>∃vs,v=.agg (List.toArray vs)/\(∀u∈vs,u.oneCell')/\aJ g l vs
 | .az l,v=>∃vs,v=.tuple (List.toArray vs)/\aJ g l vs
 | .uK o,v=>∃x,g.place o=some x/\v=.func (.yield x.aR) #[] #[]
 | .it o,v=>∃x,g.place o=some x/\v=.pointer (some ⟨x.aR,0,none⟩)
 | .any,_=>True
def aJ(g:Gh):List AV->List Value->Prop
 | [],vs=>vs=[]
 | x::xs,vs=>∃u us,vs=u::us/\aB g x u/\aJ g xs us
end
structure Gh.Le (g g':Gh):Prop where
 base:g'.base=g.base
 w0:g'.w0=g.w0
 place:∀b x,g.place b=some x->g'.place b=some x
 du:∀b o x,g.du b o=some x->g'.du b o=some x
 cY:∀b x,g.cY b=some x->g'.cY b=some x
 res:∀b,g.res b->g'.res b
 Dh:∀b o,b<g.base->g'.du b o=g.du b o
 AE:∀b,b<g.base->g'.cY b=g.cY b
def Gh.Le.refl(g:Gh):Gh.Le g g:=⟨rfl,rfl,λ_ _ h=>h,λ_ _ _ h=>h,λ_ _ h=>h,λ_ h=>h,λ_ _ _=>rfl,λ_ _=>rfl⟩
def Gh.Le.trans{a b c:Gh}(h:Gh.Le a b)(k:Gh.Le b c):Gh.Le a c :=
 ⟨k.base.trans h.base,k.w0.trans h.w0,λ_ _ x=>k.place _ _ (h.place _ _ x),λ_ _ _ x=>k.du _ _ _ (h.du _ _ _ x),λ_ _ x=>k.cY _ _ (h.cY _ _ x),λ_ x=>k.res _ (h.res _ x),
   λq o hq=>(k.Dh q o (by rw[h.base];exact hq)).trans (h.Dh q o hq),λq hq=>(k.AE q (by rw[h.base];exact hq)).trans (h.AE q hq)⟩
structure Gh.xH (g g':Gh):Prop where
 place:∀b x,g.place b=some x->g'.place b=some x
 du:∀b o x,g.du b o=some x->g'.du b o=some x
 cY:∀b x,g.cY b=some x->g'.cY b=some x
variable {g':Gh}
def Gh.xH.tok{g:Gh}(h:Gh.xH g g'){x:Nat×Nat}(hb:g.tok b=some x):g'.tok b=some x:=by
 obtain⟨p,h1,h2,h3⟩:=Gh.nC.1 hb;exact Gh.nC.2 ⟨p,h.place _ _ h1,h2,h3⟩
def Gh.xH.mp{g:Gh}(h:Gh.xH g g'){x:Nat}(hb:g.mp b=some x):g'.mp b=some x:=by
 obtain⟨p,h1,h2⟩:=Gh.sK.1 hb;exact Gh.sK.2 ⟨p,h.place _ _ h1,h2⟩
def Gh.Le.r{g:Gh}(h:Gh.Le g g'):Gh.xH g g':=⟨h.place,h.du,h.cY⟩
def Gh.Le.box{g:Gh}(h:Gh.Le g g')(b:Nat)(x:Place)(hb:g.box b=some x):g'.box b=some x:=h.place b x hb
def Gh.Le.mp{g:Gh}(h:Gh.Le g g')(b:Nat)(x:Nat)(hb:g.mp b=some x):g'.mp b=some x:=h.r.mp hb
variable {vs:List Value}{aR off:Nat}
def ot.gU{g:Gh}(h:Gh.xH g g')(hi:ot g aR off vs):ot g' aR off vs:=λi u hu=>h.du _ _ _ (hi i u hu)
variable {c n:Nat}
def yI.gU{g:Gh}(h:Gh.xH g g'){cap:nj}(hi:yI g cap aR off n c):yI g' cap aR off n c:=by
 cases cap with
 | full=>exact hi
 | own τ=>exact⟨hi.1,h.tok hi.2⟩
 | lC=>trivial
mutual
def aB.gU{g:Gh}(h:Gh.xH g g'):∀(x:AV)(v:Value),aB g x v->aB g' x v
 | .bool _,_,hr=>hr
 | .int _ _,_,hr=>hr
 | .str _,_,hr=>hr
 | .bE,_,hr=>hr
 | .af,_,hr=>hr
 | .lK,_,hr=>hr
 | .eY,_,hr=>hr
 | .eu,_,hr=>hr
 | .box _ _,_,hr=>by
   simp only[aB]at hr ⊢;obtain⟨x,hx,hv⟩:=hr;exact⟨x,h.place _ _ hx,hv⟩
 | .dJ l,_,hr=>by
   simp only[aB]at hr ⊢;obtain⟨aR,off,vs,hv,hi,hl⟩:=hr;exact⟨aR,off,vs,hv,hi.gU h,aJ.gU h l vs hl⟩
 | .vec n cap l,_,hr=>by
   simp only[aB]at hr ⊢;obtain⟨aR,off,c,vs,hv,h1,h2,hc,hi,hl⟩:=hr;exact⟨aR,off,c,vs,hv,h1,h2,hc.gU h,hi.gU h,aJ.gU h l vs hl⟩
 | .ms _ _ _ _ _,_,hr=>by
   simp only[aB]at hr ⊢;obtain⟨x,c,hx,r⟩:=hr;exact⟨x,c,h.place _ _ hx,r⟩
 | .mp _,_,hr=>by
   simp only[aB]at hr ⊢;obtain⟨x,hx,hv⟩:=hr;exact⟨x,h.mp hx,hv⟩
 | .iK ks vs,_,hr=>by
   simp only[aB]at hr ⊢;obtain⟨r,es,c,l,hv,he,hp,hs,h1,h2⟩:=hr;exact⟨r,es,c,l,hv,h.cY _ _ he,hp,hs,aJ.gU h ks _ h1,aJ.gU h vs _ h2⟩
 | .func fn first captured,_,hr=>by
   simp only[aB]at hr ⊢;obtain⟨fs,cs,hv,h1,h2⟩:=hr;exact⟨fs,cs,hv,aJ.gU h first _ h1,aJ.gU h captured _ h2⟩
 | .iface t x,_,hr=>by
   simp only[aB]at hr ⊢;obtain⟨u,hv,h1⟩:=hr;exact⟨u,hv,aB.gU h x _ h1⟩
 | .agg l,_,hr=>by
   simp only[aB]at hr ⊢;obtain⟨vs,hv,h0,h1⟩:=hr;exact⟨vs,hv,h0,aJ.gU h l _ h1⟩
 | .az l,_,hr=>by
   simp only[aB]at hr ⊢;obtain⟨vs,hv,h1⟩:=hr;exact⟨vs,hv,aJ.gU h l _ h1⟩
 | .uK o,_,hr=>by
   simp only[aB]at hr ⊢;obtain⟨x,hx,hv⟩:=hr;exact⟨x,h.place _ _ hx,hv⟩
 | .it o,_,hr=>by
   simp only[aB]at hr ⊢;obtain⟨x,hx,hv⟩:=hr;exact⟨x,h.place _ _ hx,hv⟩
 | .any,_,_=>by simp only[aB]
def aJ.gU{g:Gh}(h:Gh.xH g g'):∀(l:List AV)(vs:List Value),aJ g l vs->aJ g' l vs
 | [],_,hr=>by simpa only[aJ] using hr
 | x::xs,_,hr=>by
   simp only[aJ]at hr ⊢;obtain⟨u,us,hv,h1,h2⟩:=hr;exact⟨u,us,hv,aB.gU h x _ h1,aJ.gU h xs _ h2⟩
end
def ot.mono{g:Gh}(h:Gh.Le g g')(hi:ot g aR off vs):ot g' aR off vs:=hi.gU h.r
def aB.mono{g:Gh}(h:Gh.Le g g')(x:AV)(v:Value)(hr:aB g x v):aB g' x v:=aB.gU h.r x v hr
def aJ.mono{g:Gh}(h:Gh.Le g g')(l:List AV)(vs:List Value)(hr:aJ g l vs):aJ g' l vs:=aJ.gU h.r l vs hr
def aJ.length{g:Gh}:∀{l:List AV}{vs:List Value},aJ g l vs->vs.length=l.length
 | [],_,h=>by simp only[aJ]at h;simp[h]
 | _::xs,_,h=>by
   simp only[aJ]at h;obtain⟨u,us,rfl,_,h2⟩:=h;simp[aJ.length h2]
def aJ.append{g:Gh}:∀{l l':List AV}{vs vs':List Value},aJ g l vs->aJ g l' vs'->aJ g (l++l') (vs++vs')
 | [],_,_,_,h,h'=>by simp only[aJ]at h;subst h;simpa using h'
 | _::xs,_,_,_,h,h'=>by
   simp only[aJ,ke]at h ⊢;obtain⟨u,us,rfl,h1,h2⟩:=h;exact⟨u,us++_,rfl,h1,aJ.append h2 h'⟩
def aJ.get{g:Gh}:∀{l:List AV}{vs:List Value}{i:Nat}{x:AV},aJ g l vs->l[i]?=some x->∃v,vs[i]?=some v/\aB g x v
 | [],_,_,_,_,hx=>by simp at hx
 | y::xs,_,0,x,h,hx=>by
   simp only[aJ]at h;obtain⟨u,us,rfl,h1,h2⟩:=h;simp at hx;subst hx;exact⟨u,rfl,h1⟩
 | y::xs,_,i+1,x,h,hx=>by
   simp only[aJ]at h;obtain⟨u,us,rfl,h1,h2⟩:=h;simp at hx;obtain⟨v,hv,hr⟩:=aJ.get h2 hx;exact⟨v,by simpa using hv,hr⟩
def aJ.drop{g:Gh}:∀{l:List AV}{vs:List Value}(n:Nat),aJ g l vs->aJ g (l.drop n) (vs.drop n)
 | _,_,0,h=>by simpa using h
 | [],_,n+1,h=>by simp only[aJ]at h;subst h;simp[aJ]
 | _::xs,_,n+1,h=>by
   simp only[aJ]at h;obtain⟨u,us,rfl,h1,h2⟩:=h;simpa using aJ.drop n h2
def aJ.take{g:Gh}:∀{l:List AV}{vs:List Value}(n:Nat),aJ g l vs->aJ g (l.take n) (vs.take n)
 | _,_,0,_=>by simp[aJ]
 | [],_,n+1,h=>by simp only[aJ]at h;subst h;simp[aJ]
 | _::xs,_,n+1,h=>by
   simp only[aJ]at h;obtain⟨u,us,rfl,h1,h2⟩:=h;simp only[List.take_succ_cons,aJ];exact⟨u,_,rfl,h1,aJ.take n h2⟩
def aJ.Hm{g:Gh}:∀{l:List AV}{vs:List Value},vs.length=l.length->(∀(i:Nat)(x:AV)(v:Value),l[i]?=some x->vs[i]?=some v->aB g x v)->aJ g l vs
 | [],vs,hl,_=>by simp only[aJ];simpa using hl
 | x::xs,[],hl,_=>by simp at hl
 | x::xs,v::vs,hl,h=>by
   simp only[aJ];exact⟨v,vs,rfl,h 0 x v rfl rfl,aJ.Hm (by simpa using hl) λi x v hx hv=>h (i+1) x v (by simpa using hx) (by simpa using hv)⟩
def Bg(g:Gh)(ks vs:List AV)(es:Array MapEntry):Prop:=∃l:List MapEntry,l.Perm es.toList/\sy ks/\aJ g ks (l.map (·.key))/\aJ g vs (l.map (·.val))
def Gr(g:Gh)(es:Array MapEntry)(seen:Array Nat)(rest:List (AV×AV))(cur:Option (AV×AV)):Prop :=
 (∃l:List MapEntry,l.Perm (es.toList.filter λe=>!seen.contains e.born)/\aJ g (rest.map (·.1)) (l.map (·.key))/\aJ g (rest.map (·.2)) (l.map (·.val))) /\
 (match cur with
  | none=>True
  | some (k,v)=>∃e∈es.toList,seen.back?=some e.born/\aB g k e.key/\aB g v e.val)
def ou(g:Gh)(w:World)(p:Place):Live->Prop
 | .box l=>∃cur vs rest,w.heap[p.aR]?=some (.cells cur p.e (0,0))/\cur.size=p.size/\cur.toList=vs++rest/\aJ g l vs/\(∀u∈cur.toList,u.oneCell')/\(∀o,g.du p.aR o=none)
 | .tok t=>∃cur,w.heap[p.aR]?=some (.cells cur t.e (0,0))/\cur.size=p.size*t.size/\t.n<=p.size/\p.size<=maxLen/\(∀o,t.n*t.size<=o->g.du p.aR o=none)
 | .mp ks vs=>∃es clock,w.heap[p.aR]?=some (.map es clock)/\nD es clock/\Bg g ks vs es/\g.cY p.aR=none
 | .loop L=>∃fn tmps defers,w.heap[p.aR]?=some (.loop { state:=L.state,pending:=L.iL,fn,tmps,params:=L.params,assign:=L.assign,body:=L.body,defers })/\tmps.size=L.nt/\∀t,aB g (L.ρ t) (tmps.getD t undef)
 | .iter rest cur=>∃m es clock seen,w.heap[p.aR]?=some (.mapIter (some m) clock seen clock)/\g.cY m=some (es,clock)/\Gr g es seen rest cur
 | .wV t l=>p.e=t/\p.size=l.length/\∃cur vs rest,w.heap[p.aR]?=some (.cells cur p.e (0,0))/\cur.size=p.size/\cur.toList=vs++rest/\aJ g l vs/\(∀u∈cur.toList,u.oneCell')/\(∀o,g.du p.aR o=none)
structure St where
 live:Nat->Option Live
 nb:Option Nat
def St.box(U:St)(b:Nat):Option (List AV):=match U.live b with|some (.box l)=>some l|some (.wV _ l)=>some l|_=>none
def St.tok(U:St)(b:Nat):Option Tok:=match U.live b with|some (.tok t)=>some t|_=>none
def St.mp(U:St)(b:Nat):Option (List AV×List AV):=match U.live b with|some (.mp ks vs)=>some (ks,vs)|_=>none
def St.loop(U:St)(b:Nat):Option iu:=match U.live b with|some (.loop L)=>some L|_=>none
def St.iter(U:St)(b:Nat):Option (List (AV×AV)×Option (AV×AV)):=match U.live b with|some (.iter r c)=>some (r,c)|_=>none
variable {l:List AV}
def St.xM{U:St}(h:U.box b=some l):∃x,U.live b=some x/\∀g w p,ou g w p x->ou g w p (.box l):=by
 unfold St.box at h;split at h
 . rename_i l' hl;cases h;exact⟨_,hl,λ_ _ _ h=>h⟩
 . rename_i t l' hl;cases h;exact⟨_,hl,λ_ _ _ h=>h.2.2⟩
 . cases h
def St.nC{U:St}{l:Tok}:U.tok b=some l↔U.live b=some (.tok l):=by unfold St.tok;split<;>simp_all
def St.sK{U:St}{l:List AV×List AV}:U.mp b=some l↔U.live b=some (.mp l.1 l.2):=by unfold St.mp;split<;>simp_all [Prod.ext_iff]
def St.pN{U:St}{l:iu}:U.loop b=some l↔U.live b=some (.loop l):=by unfold St.loop;split<;>simp_all
def St.BD{U:St}{l:List (AV×AV)×Option (AV×AV)}:U.iter b=some l↔U.live b=some (.iter l.1 l.2):=by unfold St.iter;split<;>simp_all [Prod.ext_iff]
def St.set(U:St)(b:Nat)(x:Live):St:={ U with live:=λy=>if y=b then some x else U.live y }
def St.del(U:St)(b:Nat):St:={ U with live:=λy=>if y=b then none else U.live y }
def St.new(U:St)(b:Nat)(x:Live):St:={ live:=λy=>if y=b then some x else U.live y,nb:=U.nb.map (·+1) }
def St.eO(U:St)(b:Nat):Prop:=U.live b=none/\∀n,U.nb=some n->b=n
structure bT (g:Gh) (U:St) (w:World):Prop where
 below:Below g.base g.w0 w
 le:g.base<=w.heap.size
 du:∀aR o u,g.du aR o=some u->w.cell? ⟨aR,o,none⟩=some u/\u.oneCell'
 cY:∀r es c,g.cY r=some (es,c)->w.heap[r]?=some (.map es c)/\nD es c
 live:∀b x,U.live b=some x->∃p,g.place b=some p/\g.base<=p.aR/\ou g w p x
 apart:∀b b' x x' p p',U.live b=some x->U.live b'=some x'->g.place b=some p->g.place b'=some p'->p.aR=p'.aR->b=b'
 res:∀r,g.res r->g.base<=r/\w.heap[r]?=some (.deferred (some []))
 fin:∃N,(∀n,U.nb=some n->N=n)/\∀b,N<=b->g.place b=none
structure St.Le (U aa:St):Prop where
 live:∀b x,U.live b=some x->aa.live b=some x
 nb:∀n,U.nb=some n->aa.nb=some n
def St.Le.refl(U:St):St.Le U U:=⟨λ_ _ h=>h,λ_ h=>h⟩
def St.Le.trans{a b c:St}(h:St.Le a b)(k:St.Le b c):St.Le a c:=⟨λ_ _ x=>k.live _ _ (h.live _ _ x),λ_ x=>k.nb _ (h.nb _ x)⟩
def St.xO(U:St)(b:Nat):St.Le (U.del b) U:=⟨λx y hx=>by simp only[St.del]at hx;split at hx<;>simp_all,λ_ h=>h⟩
def bT.weaken{g:Gh}{U aa:St}{w:World}(h:bT g aa w)(hl:St.Le U aa):bT g U w where
 below:=h.below
 le:=h.le
 du:=h.du
 cY:=h.cY
 live:=λb l hb=>h.live b l (hl.live _ _ hb)
 apart:=λb b' l l' x x' h1 h2=>h.apart b b' l l' x x' (hl.live _ _ h1) (hl.live _ _ h2)
 res:=h.res
 fin:=let ⟨N,h1,h2⟩:=h.fin;⟨N,λn hn=>h1 n (hl.nb n hn),h2⟩
variable {w':World}
def KH{w:World}{k:Nat}(h:w'.heap[k]?=w.heap[k]?)(o:Nat):w'.cell? ⟨k,o,none⟩=w.cell? ⟨k,o,none⟩:=by simp[World.cell?,h]
variable {u:Value}
def bT.Ut{g:Gh}{U:St}{w:World}(h:bT g U w){o:Nat}(hi:g.du aR o=some u):aR<w.heap.size :=
 World.block_lt_of_cell? w ⟨aR,o,none⟩ (h.du _ _ _ hi).1
variable {r:Nat}
def bT.PZ{g:Gh}{U:St}{w:World}(h:bT g U w){x:Array MapEntry×Nat}(hi:g.cY r=some x):r<w.heap.size :=
 (nN.1 (h.cY r x.1 x.2 hi).1).1
def bT.Ep{g:Gh}{U:St}{w:World}(h:bT g U w){q:Nat}(hq:w.heap.size<=q)(o:Nat):g.du q o=none:=by
 cases e:g.du q o with
 | none=>rfl
 | some u=>have:=h.Ut e;omega
def bT.Bv{g:Gh}{U:St}{w:World}(h:bT g U w){q:Nat}(hq:w.heap.size<=q):g.cY q=none:=by
 cases e:g.cY q with
 | none=>rfl
 | some u=>have:=h.PZ e;omega
variable {es:Array MapEntry}
def Bg.gU{g:Gh}(h:Gh.xH g g'){ks vs:List AV}(hm:Bg g ks vs es):Bg g' ks vs es :=
 let ⟨l,h1,h2,h3,h4⟩:=hm;⟨l,h1,h2,h3.gU h,h4.gU h⟩
def Gr.gU{g:Gh}(h:Gh.xH g g'){seen:Array Nat}{rest:List (AV×AV)}{cur:Option (AV×AV)}(hm:Gr g es seen rest cur):Gr g' es seen rest cur:=by
 obtain⟨⟨l,h1,h2,h3⟩,h4⟩:=hm;refine⟨⟨l,h1,h2.gU h,h3.gU h⟩,?_⟩;cases cur with
 | none=>trivial
 | some kv=>obtain⟨e,k1,k2,k3,k4⟩:=h4;exact⟨e,k1,k2,k3.gU h,k4.gU h⟩
variable {p:Place}
def ou.frame{g:Gh}{w:World}{x:Live}(h:ou g w p x)(hl:Gh.xH g g')(hb:w'.heap[p.aR]?=w.heap[p.aR]?)(hi:∀o,g'.du p.aR o=g.du p.aR o)(hm:g'.cY p.aR=g.cY p.aR):ou g' w' p x:=by
 cases x with
 | box l=>obtain⟨cur,vs,rest,h1,h2,h3,h4,h5,h6⟩:=h;exact⟨cur,vs,rest,hb.trans h1,h2,h3,h4.gU hl,h5,λo=>(hi o).trans (h6 o)⟩
 | tok t=>obtain⟨cur,h1,h2,h3,h4,h5⟩:=h;exact⟨cur,hb.trans h1,h2,h3,h4,λo ho=>(hi o).trans (h5 o ho)⟩
 | mp ks vs=>obtain⟨es,clock,h1,h2,h3,h4⟩:=h;exact⟨es,clock,hb.trans h1,h2,h3.gU hl,hm.trans h4⟩
 | loop L=>obtain⟨fn,tmps,defers,h1,h2,h3⟩:=h;exact⟨fn,tmps,defers,hb.trans h1,h2,λt=>(h3 t).gU hl⟩
 | iter rest cur=>obtain⟨m,es,clock,seen,h1,h2,h3⟩:=h;exact⟨m,es,clock,seen,hb.trans h1,hl.cY _ _ h2,h3.gU hl⟩
 | wV t l=>obtain⟨e1,e2,cur,vs,rest,h1,h2,h3,h4,h5,h6⟩:=h;exact⟨e1,e2,cur,vs,rest,hb.trans h1,h2,h3,h4.gU hl,h5,λo=>(hi o).trans (h6 o)⟩
def ou.lt{g:Gh}{w:World}{x:Live}(h:ou g w p x):p.aR<w.heap.size:=by
 have:∃o,w.heap[p.aR]?=some o:=by
  cases x with
  | box l=>obtain⟨cur,vs,rest,h1,_⟩:=h;exact⟨_,h1⟩
  | tok t=>obtain⟨cur,h1,_⟩:=h;exact⟨_,h1⟩
  | mp ks vs=>obtain⟨es,clock,h1,_⟩:=h;exact⟨_,h1⟩
  | loop L=>obtain⟨fn,tmps,defers,h1,_⟩:=h;exact⟨_,h1⟩
  | iter rest cur=>obtain⟨m,es,clock,seen,h1,_⟩:=h;exact⟨_,h1⟩
  | wV t l=>obtain⟨_,_,cur,vs,rest,h1,_⟩:=h;exact⟨_,h1⟩
 exact (nN.1 this.choose_spec).1
def ou.Qi{g:Gh}{w:World}{x:Live}(h:ou g w p x){ds:Option (List Deferred)}(hr:w.heap[r]?=some (.deferred ds)):p.aR≠r:=by
 intro e;subst e;cases x with
 | box l=>obtain⟨cur,vs,rest,h1,_⟩:=h;rw[hr]at h1;cases h1
 | tok t=>obtain⟨cur,h1,_⟩:=h;rw[hr]at h1;cases h1
 | mp ks vs=>obtain⟨es,clock,h1,_⟩:=h;rw[hr]at h1;cases h1
 | loop L=>obtain⟨fn,tmps,defers,h1,_⟩:=h;rw[hr]at h1;cases h1
 | iter rest cur=>obtain⟨m,es,clock,seen,h1,_⟩:=h;rw[hr]at h1;cases h1
 | wV t l=>obtain⟨_,_,cur,vs,rest,h1,_⟩:=h;rw[hr]at h1;cases h1
def bT.change{g:Gh}{U:St}{w w':World}(h:bT g U w)(B:Nat)(hB:g.base<=B)(hle:Gh.Le g g')(oy:g'.place=g.place)(hres:g'.res=g.res)
 (hw:w'.os=w.os/\w'.tape=w.tape/\w'.output=w.output/\w.heap.size<=w'.heap.size) (hk:∀k,k≠B->k<w.heap.size->w'.heap[k]?=w.heap[k]?)
 (qB:∀q o,q≠B->g'.du q o=g.du q o) (ac8:∀q,q≠B->g'.cY q=g.cY q)
 (hi:∀o u,g'.du B o=some u->w'.cell? ⟨B,o,none⟩=some u/\u.oneCell') (hm:∀es c,g'.cY B=some (es,c)->w'.heap[B]?=some (.map es c)/\nD es c)
 (iV:∀b x p,U.live b=some x->g.place b=some p->p.aR≠B) (ain:g.res B=false):bT g' U w':=by
 have aA:∀k o,w.heap[k]?=some o->k≠B->w'.heap[k]?=some o:=λk o hko hn=>by rw[hk k hn (nN.1 hko).1];exact hko
 exact {
  below:=by
   rw[hle.base,hle.w0];exact h.below.trans ⟨hw.1,hw.2.1,hw.2.2.1,hw.2.2.2,λk hkb=>hk k d6 (by have:=h.le;omega)⟩
  le:=by rw[hle.base];exact Nat.le_trans h.le hw.2.2.2
  du:=λq o u hu=>by
   by_cases hq:q=B
   . subst hq;exact hi o u hu
   . rw[qB q o hq]at hu;rw[KH (hk q hq (h.Ut hu))];exact h.du _ _ _ hu
  cY:=λr es c hr=>by
   by_cases hq:r=B
   . subst hq;exact hm es c hr
   . rw[ac8 r hq]at hr;rw[hk r hq (h.PZ hr)];exact h.cY _ _ _ hr
  live:=λb x hb=>by
   obtain⟨p,h1,h2,h3⟩:=h.live b x hb;have PL:=iV b x p hb h1;refine⟨p,by rw[oy];exact h1,by rw[hle.base];exact h2,h3.frame hle.r (hk _ PL h3.lt) (λo=>qB _ _ PL) (ac8 _ PL)⟩
  apart:=λb b' x x' p p' h1 h2 h3 h4 h5=>by rw[oy]at h3 h4;exact h.apart b b' x x' p p' h1 h2 h3 h4 h5
  res:=λr hr=>by
   rw[hres]at hr;obtain⟨h1,h2⟩:=h.res r hr;rw[hle.base];exact⟨h1,aA _ _ h2 (λe=>by subst e;rw[ain]at hr;cases hr)⟩
  fin:=by rw[oy];exact h.fin }
def bT.named{g:Gh}{U:St}{w:World}(h:bT g U w){x:Live}(hb:g.place b=some p)(hB:g.base<=p.aR)(hx:ou g w p x)
 (iV:∀b' x' p',b'≠b->U.live b'=some x'->g.place b'=some p'->p'.aR≠p.aR):bT g (U.set b x) w where
 below:=h.below
 le:=h.le
 du:=h.du
 cY:=h.cY
 live:=λb' x' fi=>by
  simp only[St.set]at fi;split at fi
  . rename_i e;subst e;cases fi;exact⟨p,hb,hB,hx⟩
  . exact h.live b' x' fi
 apart:=λb1 b2 x1 x2 p1 p2 h1 h2 h3 h4 h5=>by
  simp only[St.set]at h1 h2
  by_cases e1:b1=b<;>by_cases e2:b2=b
  . rw[e1,e2]
  . rw[if_neg e2]at h2;subst e1;rw[hb]at h3;cases h3;exact absurd h5.symm (iV _ _ _ e2 h2 h4)
  . rw[if_neg e1]at h1;subst e2;rw[hb]at h4;cases h4;exact absurd h5 (iV _ _ _ e1 h1 h3)
  . rw[if_neg e1]at h1;rw[if_neg e2]at h2;exact h.apart _ _ _ _ _ _ h1 h2 h3 h4 h5
 res:=h.res
 fin:=h.fin
def Gh.qS(g:Gh)(b:Nat)(p:Place):Gh:={ g with place:=λy=>if y=b then some p else g.place y }
def Gh.mL(g:Gh)(b:Nat)(p:Place):(g.qS b p).place b=some p:=by simp[Gh.qS]
def Gh.qn(g:Gh){y:Nat}(p:Place)(h:y≠b):(g.qS b p).place y=g.place y:=by simp[Gh.qS,h]
def Gh.Fj{g:Gh}(p:Place)(h:g.place b=none):Gh.Le g (g.qS b p) :=
 ⟨rfl,rfl,λy x hy=>by rw[Gh.qn _ _ (λe=>by subst e;rw[h]at hy;cases hy)];exact hy,λ_ _ _ h=>h,λ_ _ h=>h,λ_ h=>h,λ_ _ _=>rfl,λ_ _=>rfl⟩
def bT.newName{g:Gh}{U:St}{w:World}(h:bT g U w)(p:Place)(hB:g.base<=p.aR)(iV:∀b' x' p',U.live b'=some x'->g.place b'=some p'->p'.aR≠p.aR) :
 ∃b,U.eO b/\Gh.Le g (g.qS b p)/\∀x,ou (g.qS b p) w p x->bT (g.qS b p) (U.new b x) w:=by
 obtain⟨N,hN1,hN2⟩:=h.fin;have Fa:g.place N=none:=hN2 N (da _);have hln:U.live N=none:=by
  cases e:U.live N with
  | none=>rfl
  | some x=>obtain⟨p,h1,_⟩:=h.live N x e;rw[Fa]at h1;cases h1
 refine⟨N,⟨hln,hN1⟩,Gh.Fj p Fa,λx hx=>?_⟩;have hle:=Gh.Fj (g:=g) p Fa;have cD:∀b x,U.live b=some x->b≠N:=λb x hb e=>by subst e;rw[hln]at hb;cases hb
 exact {
  below:=h.below
  le:=h.le
  du:=h.du
  cY:=h.cY
  live:=λb' x' fi=>by
   simp only[St.new]at fi;split at fi
   . rename_i e;subst e;cases fi;exact⟨p,Gh.mL _ _ _,hB,hx⟩
   . obtain⟨p',h1,h2,h3⟩:=h.live b' x' fi;exact⟨p',hle.place _ _ h1,h2,h3.frame hle.r rfl (λ_=>rfl) rfl⟩
  apart:=λb1 b2 x1 x2 p1 p2 h1 h2 h3 h4 h5=>by
   simp only[St.new]at h1 h2
   by_cases e1:b1=N<;>by_cases e2:b2=N
   . rw[e1,e2]
   . rw[if_neg e2]at h2;rw[Gh.qn _ _ e2]at h4;subst e1;rw[Gh.mL]at h3;cases h3;exact absurd h5.symm (iV _ _ _ h2 h4)
   . rw[if_neg e1]at h1;rw[Gh.qn _ _ e1]at h3;subst e2;rw[Gh.mL]at h4;cases h4;exact absurd h5 (iV _ _ _ h1 h3)
   . rw[if_neg e1]at h1;rw[if_neg e2]at h2;rw[Gh.qn _ _ e1]at h3;rw[Gh.qn _ _ e2]at h4;exact h.apart _ _ _ _ _ _ h1 h2 h3 h4 h5
  res:=h.res
  fin:=⟨N+1,λn hn=>by
   simp only[St.new,so]at hn;obtain⟨m,hm,rfl⟩:=hn;rw[hN1 m hm],λb hb=>by rw[Gh.qn _ _ d6];exact hN2 b d6⟩ }
def bT.grow{g:Gh}{U:St}{w:World}(h:bT g U w)(hg:w.grownBy w' none):bT g U w':=by
 have hb:∀k,k<w.heap.size->w'.heap[k]?=w.heap[k]?:=λk hk=>hg.block k hk d8;refine h.change w.heap.size h.le (Gh.Le.refl g) rfl rfl ⟨hg.os,hg.tape,hg.output,hg.size⟩ (λk _ hk=>hb k hk) (λ_ _ _=>rfl) (λ_ _=>rfl) (λo u hu=>?_) (λes c hr=>?_) (λb x p h1 h2=>?_) ?_
 . rw[h.Ep (da _)]at hu;cases hu
 . rw[h.Bv (da _)]at hr;cases hr
 . obtain⟨p',k1,_,k3⟩:=h.live b x h1;rw[h2]at k1;cases k1;exact Nat.ne_of_lt k3.lt
 . cases e:g.res w.heap.size with
   | false=>rfl
   | true=>have:=(nN.1 (h.res _ e).2).1;omega
def nF(w:World):w.grownBy w.drew none:=⟨rfl,rfl,rfl,da _,λ_ _ _=>rfl⟩
def bT.IJ{g:Gh}{U:St}{w:World}(h:bT g U w){q:Nat}(hq:w.heap.size<=q):g.res q=false:=by
 cases e:g.res q with
 | false=>rfl
 | true=>have:=(nN.1 (h.res _ e).2).1;omega
def bT.BQ{g:Gh}{U:St}{w:World}(h:bT g U w){x:Live}(hb:U.live b=some x)(hp:g.place b=some p):p.aR<w.heap.size:=by
 obtain⟨p',k1,_,k3⟩:=h.live b x hb;rw[hp]at k1;cases k1;exact k3.lt
def bT.yr{g:Gh}{U:St}{w:World}(h:bT g U w){x:Live}(hb:U.live b=some x)(hp:g.place b=some p):g.res p.aR=false:=by
 cases e:g.res p.aR with
 | false=>rfl
 | true =>
   obtain⟨p',k1,_,k3⟩:=h.live b x hb;rw[hp]at k1;cases k1;exact absurd rfl (k3.Qi (h.res _ e).2)
def bT.yk{g:Gh}{U:St}{w:World}(h:bT g U w)(o:Obj)(e:TypeId)(size:Nat)(x:Live)
 (hx:∀g',Gh.Le g g'->(∀o,g'.du w.heap.size o=none)->g'.cY w.heap.size=none->ou g' (w.alloc o) ⟨w.heap.size,e,size⟩ x) :
 ∃b g',U.eO b/\Gh.Le g g'/\g'.place b=some ⟨w.heap.size,e,size⟩/\bT g' (U.new b x) (w.alloc o):=by
 have hs:=h.grow (w.grownBy_alloc o none);obtain⟨b,h1,h2,h3⟩:=hs.newName ⟨w.heap.size,e,size⟩ h.le (λb' x' p' k1 k2=>Nat.ne_of_lt (h.BQ k1 k2));exact⟨b,_,h1,h2,Gh.mL _ _ _,h3 x (hx _ h2 (λo=>h.Ep (da _) o) (h.Bv (da _)))⟩
def St.c7(U:St)(b:Nat)(l:List AV):St:=U.set b (.box l)
def St.aiR(U:St)(b:Nat)(kv:List AV×List AV):St:=U.set b (.mp kv.1 kv.2)
def bT.box{g:Gh}{U:St}{w:World}(h:bT g U w)(b:Nat)(l:List AV)(hb:U.box b=some l):∃x cur vs rest,g.box b=some x/\g.base<=x.aR/\w.heap[x.aR]?=some (.cells cur x.e (0,0))/\cur.size=x.size/\cur.toList=vs++rest/\aJ g l vs /\
 (∀u∈cur.toList,u.oneCell')/\(∀o,g.du x.aR o=none):=by
 obtain⟨y,hy,hyb⟩:=St.xM hb;obtain⟨p,h1,h2,hp⟩:=h.live b _ hy;obtain⟨cur,vs,rest,h3,h4,h5,h6,h7,h8⟩:=hyb _ _ _ hp;exact⟨p,cur,vs,rest,h1,h2,h3,h4,h5,h6,h7,h8⟩
def bT.tok{g:Gh}{U:St}{w:World}(h:bT g U w)(τ:Nat)(t:Tok)(ht:U.tok τ=some t):∃aR c cur,g.tok τ=some (aR,c)/\g.base<=aR/\w.heap[aR]?=some (.cells cur t.e (0,0))/\cur.size=c*t.size/\t.n<=c/\c<=maxLen /\
 (∀o,t.n*t.size<=o->g.du aR o=none):=by
 obtain⟨p,h1,h2,cur,h3,h4,h5,h6,h7⟩:=h.live τ _ (St.nC.1 ht);exact⟨p.aR,p.size,cur,Gh.nC.2 ⟨p,h1,rfl,rfl⟩,h2,h3,h4,h5,h6,h7⟩
def bT.mp{g:Gh}{U:St}{w:World}(h:bT g U w)(m:Nat)(kv:List AV×List AV)(hm:U.mp m=some kv):∃r es clock,g.mp m=some r/\g.base<=r/\w.heap[r]?=some (.map es clock)/\nD es clock/\Bg g kv.1 kv.2 es/\g.cY r=none:=by
 obtain⟨p,h1,h2,es,clock,h3,h4,h5,h6⟩:=h.live m _ (St.sK.1 hm);exact⟨p.aR,es,clock,Gh.sK.2 ⟨p,h1,rfl⟩,h2,h3,h4,h5,h6⟩
def bT.rewrite{g:Gh}{U:St}{w w':World}(h:bT g U w){x x':Live}(hb:U.live b=some x)(hp:g.place b=some p)
 (hw:w'.os=w.os/\w'.tape=w.tape/\w'.output=w.output/\w.heap.size<=w'.heap.size) (hk:∀k,k≠p.aR->k<w.heap.size->w'.heap[k]?=w.heap[k]?)
 (hi:∀o,g.du p.aR o=none) (hm:g.cY p.aR=none) (hx:ou g w' p x'):bT g (U.set b x') w':=by
 obtain⟨p',k1,k2,k3⟩:=h.live b x hb;rw[hp]at k1;cases k1;have iV:∀b' x' p',b'≠b->U.live b'=some x'->g.place b'=some p'->p'.aR≠p.aR:=λb' x' p' cD h1 h2 e=>cD (h.apart _ _ _ _ _ _ h1 hb h2 hp e);have hd:∀b' x' p',(U.del b).live b'=some x'->g.place b'=some p'->p'.aR≠p.aR:=λb' x' p' h1 h2=>by
  simp only[St.del]at h1;split at h1
  . cases h1
  . rename_i e;exact iV _ _ _ e h1 h2
 have h1:=(h.weaken (St.xO U b)).change p.aR k2 (Gh.Le.refl g) rfl rfl hw hk (λ_ _ _=>rfl) (λ_ _=>rfl) (λo u hu=>by rw[hi]at hu;cases hu) (λes c hr=>by rw[hm]at hr;cases hr) hd (h.yr hb hp);have h2:=h1.named hp k2 hx (λb' x' p' _ q1 q2=>hd b' x' p' q1 q2);have e:(U.del b).set b x'=U.set b x':=by
  simp only[St.del,St.set,St.mk.injEq,and_true];funext y;split<;>rfl
 rw[<-e];exact h2
def bT.mU{g:Gh}{U:St}{w:World}(h:bT g U w)(e:TypeId)(cur:Array Value)(vs rest:List Value)(l:List AV)(hc:cur.toList=vs++rest)(hl:aJ g l vs)(h1:∀u∈cur.toList,u.oneCell') :
 ∃b g',U.eO b/\Gh.Le g g'/\g'.box b=some ⟨w.heap.size,e,cur.size⟩/\bT g' (U.new b (.box l)) (w.alloc (.cells cur e)) :=
 h.yk (.cells cur e) e cur.size (.box l) λg' hle hi hm=>⟨cur,vs,rest,heap_alloc_new w _,rfl,hc,hl.mono hle,h1,hi⟩
def bT.UX{g:Gh}{U:St}{w:World}(h:bT g U w)(e:TypeId)(cur:Array Value)(vs rest:List Value)(hc:cur.toList=vs++rest)(h1:∀u∈cur.toList,u.oneCell') :
 ∃g',Gh.Le g g'/\ot g' w.heap.size 0 vs/\(∀o,vs.length<=o->g'.du w.heap.size o=none)/\g'.place=g.place/\bT g' U (w.alloc (.cells cur e)):=by
 let g':Gh:={ g with du:=λaR o=>if aR=w.heap.size then vs[o]? else g.du aR o }
 have tb:∀o,g'.du w.heap.size o=vs[o]?:=λo=>by show (if w.heap.size=w.heap.size then _ else _)=_;rw[if_pos rfl]
 have hold:∀aR o,aR≠w.heap.size->g'.du aR o=g.du aR o:=λaR o hx=>by show (if aR=w.heap.size then _ else _)=_;rw[if_neg hx]
 have hle:Gh.Le g g':=⟨rfl,rfl,λ_ _ h=>h,λaR o u hu=>by
  rw[hold _ _ (λe=>by subst e;rw[h.Ep (da _)]at hu;cases hu)];exact hu,λ_ _ h=>h,λ_ h=>h,λq o hq=>hold _ _ (by have:=h.le;omega),λ_ _=>rfl⟩
 have hg:=w.grownBy_alloc (.cells cur e) none;refine⟨g',hle,λi u hu=>by rw[cK,tb];exact hu,λo ho=>by rw[tb];simpa using ho,rfl,?_⟩;refine h.change w.heap.size h.le hle rfl rfl ⟨hg.os,hg.tape,hg.output,hg.size⟩ (λk _ hk=>hg.block k hk d8) (λq o hq=>hold q o hq) (λ_ _=>rfl) (λo u hu=>?_) (λes c hr=>?_) (λb x p k1 k2=>Nat.ne_of_lt (h.BQ k1 k2)) (h.IJ (da _))
 . rw[tb]at hu;have hcu:cur[o]?=some u:=by
    rw[<-nO,hc,yp (by
     rcases ik o vs.length with h|h
     . exact h
     . simp[pn h]at hu)]
    exact hu
   exact⟨by rw[cell_of_row _ _ _ cur e (0,0) (heap_alloc_new w _)];exact hcu,h1 u (fT (by rw[nO];exact hcu))⟩
 . have:g.cY w.heap.size=some (es,c):=hr;rw[h.Bv (da _)]at this;cases this
variable {e:TypeId}
def bT.qd{g:Gh}{U:St}{w:World}(h:bT g U w){c:Array Value}{f:Nat×Nat}(hh:w.heap[r]?=some (.cells c e f)):g.cY r=none:=by
 cases e:g.cY r with
 | none=>rfl
 | some x=>have:=(h.cY r x.1 x.2 e).1;rw[hh]at this;cases this
def bT.setRow{g:Gh}{U:St}{w:World}(h:bT g U w){l':List AV}{x:Place}(hb:U.box b=some l)(hx:g.box b=some x)
 (cur:Array Value) (vs rest:List Value) (gj:cur.size=x.size) (hc:cur.toList=vs++rest) (hl:aJ g l' vs) (h1:∀u∈cur.toList,u.oneCell') :
 bT g (U.c7 b l') (w.setRow x.aR cur):=by
 obtain⟨x',af9,vs0,aiL,k1,k2,k3,k4,k5,k6,k7,k8⟩:=h.box b l hb;rw[hx]at k1;cases k1;obtain⟨y,hy,_⟩:=St.xM hb;exact h.rewrite hy hx ⟨rfl,rfl,rfl,d8⟩ (λk hk _=>setRow_other _ _ _ _ hk) k8 (h.qd k3) ⟨cur,vs,rest,setRow_heap w x.aR af9 cur x.e (0,0) k3,gj,hc,hl,h1,k8⟩
def bT.aiJ{g:Gh}{U:St}{w:World}(h:bT g U w)(hb:U.box b=some l):bT g (U.c7 b l) w:=by
 obtain⟨y,hy,hyb⟩:=St.xM hb;obtain⟨p,h1,h2,hp⟩:=h.live b _ hy;obtain⟨cur,vs,rest,h3,h4,h5,h6,h7,h8⟩:=hyb _ _ _ hp;exact h.rewrite hy h1 ⟨rfl,rfl,rfl,da _⟩ (λ_ _ _=>rfl) h8 (h.qd h3) ⟨cur,vs,rest,h3,h4,h5,h6,h7,h8⟩
def Is{cur cur':Array Value}{a:Nat}{news:List Value}(ha:a<=cur.size)(Cp:cur'.toList=cur.toList.take a++news++cur.toList.drop (a+news.length))(o:Nat) :
 cur'[o]?=if o<a then cur[o]? else if o<a+news.length then news[o-a]? else cur[o]?:=by
 rw[<-nO,Cp,lG];have hl:(cur.toList.take a).length=a:=by simp;omega
 by_cases h1:o<a
 . rw[if_pos h1,yp d6,List.getElem?_take,if_pos h1,nO]
 . rw[if_neg h1,List.getElem?_append_right d6,hl]
   by_cases h2:o<a+news.length
   . rw[if_pos h2,yp d6]
   . rw[if_neg h2,List.getElem?_append_right d6,List.getElem?_drop,nO];congr 1;omega
def bT.ahp{g:Gh}{U:St}{w:World}(h:bT g U w){τ:Nat}{t:Tok}(ht:U.tok τ=some t)(hg:g.tok τ=some (aR,c))
 (cur cur':Array Value) (news:List Value) (m:Nat) (Rv:w.heap[aR]?=some (.cells cur t.e (0,0))) (hlen:news.length=m*t.size) (sh:t.n+m<=c)
 (Cp:cur'.toList=cur.toList.take (t.n*t.size)++news++cur.toList.drop (t.n*t.size+news.length)) (h1:∀u∈news,u.oneCell') :
 ∃wZ g',(U.del τ).eO wZ/\Gh.Le g g'/\g'.tok wZ=some (aR,c)/\ot g' aR (t.n*t.size) news/\bT g' ((U.del τ).new wZ (.tok ⟨t.n+m,t.e,t.size⟩)) (w.setRow aR cur'):=by
 obtain⟨p,hp,PL,hpc⟩:=Gh.nC.1 hg;dsimp only at PL hpc;subst PL hpc;obtain⟨p',k1,k2,af9,k3,k4,k5,k6,k7⟩:=h.live τ _ (St.nC.1 ht);rw[hp]at k1;cases k1;rw[Rv]at k3;cases k3;have wh:(t.n+m)*t.size<=cur.size:=by rw[k4];exact Nat.mul_le_mul_right _ sh
 have JB:(t.n+m)*t.size=t.n*t.size+news.length:=by rw[hlen,Nat.add_mul]
 have gj:cur'.size=cur.size:=by
  have:=congrArg List.length Cp;simp only[wH,dx,List.length_take,List.length_drop]at this;omega
 let g':Gh:={ g with du:=λq o=>if q=p.aR/\t.n*t.size<=o/\o<t.n*t.size+news.length then news[o-t.n*t.size]? else g.du q o }
 have qB:∀q o,q≠p.aR->g'.du q o=g.du q o:=λq o hq=>by
  show (if _ then _ else _)=_
  rw[if_neg (λe=>hq e.1)]
 have hle:Gh.Le g g':=⟨rfl,rfl,λ_ _ h=>h,λq o u hu=>by
  show (if _ then _ else _)=_
  rw[if_neg (λe=>by obtain⟨rfl,e2,_⟩:=e;rw[k7 o e2]at hu;cases hu)];exact hu,λ_ _ h=>h,λ_ h=>h,λq o hq=>qB _ _ d6,λ_ _=>rfl⟩
 have Bs:=setRow_heap w p.aR cur cur' t.e (0,0) Rv;have wC:=λo=>Is (cur:=cur) (cur':=cur') (a:=t.n*t.size) (news:=news) d6 Cp o;have iV:∀b' x' p',(U.del τ).live b'=some x'->g.place b'=some p'->p'.aR≠p.aR:=λb' x' p' h1 h2 e=>by
  simp only[St.del]at h1;split at h1
  . cases h1
  . rename_i ne;exact ne (h.apart _ _ _ _ _ _ h1 (St.nC.1 ht) h2 hp e)
 have hs:=(h.weaken (St.xO U τ)).change (w':=w.setRow p.aR cur') p.aR k2 hle rfl rfl ⟨rfl,rfl,rfl,d8⟩ (λk hk _=>setRow_other _ _ _ _ hk) qB (λ_ _=>rfl) (λo u hu=>by
  rw[cell_of_row _ _ _ cur' t.e (0,0) Bs,wC];have r9:(if p.aR=p.aR/\t.n*t.size<=o/\o<t.n*t.size+news.length then news[o-t.n*t.size]? else g.du p.aR o)=some u:=hu
  by_cases ho:o<t.n*t.size
  . rw[if_pos ho];rw[if_neg d6]at r9;have:=h.du _ _ _ r9;rw[cell_of_row _ _ _ cur t.e (0,0) Rv]at this;exact this
  . rw[if_neg ho]
    by_cases ho2:o<t.n*t.size+news.length
    . rw[if_pos ho2];rw[if_pos ⟨rfl,d6,ho2⟩]at r9;exact⟨r9,h1 u (fT r9)⟩
    . rw[if_neg d6]at r9;rw[k7 o d6]at r9;cases r9) (λes c hr=>by
  have hr:g.cY p.aR=some (es,c):=hr;rw[h.qd Rv]at hr;cases hr) iV (h.yr (St.nC.1 ht) hp)
 obtain⟨wZ,f1,f2,f3⟩:=hs.newName p k2 iV;refine⟨wZ,_,f1,hle.trans f2,Gh.nC.2 ⟨p,Gh.mL _ _ _,rfl,rfl⟩,λi u hu=>?_,f3 _ ⟨cur',Bs,by rw[gj];exact k4,sh,k6,λo ho=>?_⟩⟩
 . have hi:i<news.length:=by
    rcases ik i news.length with h|h
    . exact h
    . simp[pn h]at hu
   show (if _ then _ else _)=_
   rw[if_pos ⟨rfl,d6,d6⟩,Nat.add_sub_cancel_left];exact hu
 . have ho:(t.n+m)*t.size<=o:=ho;show (if _ then _ else _)=_
   rw[if_neg d6];exact k7 o d6
def bT.rename{g:Gh}{U:St}{w:World}(h:bT g U w){x:Live}(hb:U.live b=some x)(hp:g.place b=some p) :
 ∃b' g',(U.del b).eO b'/\Gh.Le g g'/\g'.place b'=some p/\bT g' ((U.del b).new b' x) w:=by
 obtain⟨p',k1,k2,k3⟩:=h.live b x hb;rw[hp]at k1;cases k1;obtain⟨b',f1,f2,f3⟩:=(h.weaken (St.xO U b)).newName p k2 (λb' x' p' h1 h2 e=>by
  simp only[St.del]at h1;split at h1
  . cases h1
  . rename_i ne;exact ne (h.apart _ _ _ _ _ _ h1 hb h2 hp e))
 exact⟨b',_,f1,f2,Gh.mL _ _ _,f3 x (k3.frame f2.r rfl (λ_=>rfl) rfl)⟩
def bT.qg{g:Gh}{U:St}{w:World}(h:bT g U w)(e:TypeId)(size n c:Nat)(cur:Array Value)(vs rest:List Value)(hc:cur.toList=vs++rest)(h1:∀u∈cur.toList,u.oneCell')
 (De:vs.length=n*size) (wh:cur.size=c*size) (JA:n<=c) (Ar:c<=maxLen) :
 ∃τ g',U.eO τ/\Gh.Le g g'/\g'.tok τ=some (w.heap.size,c)/\ot g' w.heap.size 0 vs/\bT g' (U.new τ (.tok ⟨n,e,size⟩)) (w.alloc (.cells cur e)):=by
 obtain⟨g1,Mh,qB,iV,oy,hs⟩:=h.UX e cur vs rest hc h1;obtain⟨τ,f1,f2,f3⟩:=hs.newName ⟨w.heap.size,e,c⟩ (by rw[Mh.base];exact h.le) (λb' x' p' k1 k2=>by rw[oy]at k2;exact Nat.ne_of_lt (h.BQ k1 k2));exact⟨τ,_,f1,Mh.trans f2,Gh.nC.2 ⟨_,Gh.mL _ _ _,rfl,rfl⟩,qB,f3 _ ⟨cur,heap_alloc_new w _,wh,JA,Ar,λo ho=>iV o (by rw[De];exact ho)⟩⟩
def bT.freeze{g:Gh}{U:St}{w:World}(h:bT g U w){x:Place}(hb:U.box b=some l)(hx:g.box b=some x) :
 ∃g' vs,Gh.Le g g'/\g'.place=g.place/\ot g' x.aR 0 vs/\aJ g l vs/\bT g' (U.del b) w:=by
 obtain⟨x',cur,vs,rest,k1,k2,k3,k4,k5,k6,k7,k8⟩:=h.box b l hb;rw[hx]at k1;cases k1;let g':Gh:={ g with du:=λq o=>if q=x.aR then cur[o]? else g.du q o }
 have tb:∀o,g'.du x.aR o=cur[o]?:=λo=>by show (if x.aR=x.aR then _ else _)=_;rw[if_pos rfl]
 have hold:∀q o,q≠x.aR->g'.du q o=g.du q o:=λq o hq=>by show (if q=x.aR then _ else _)=_;rw[if_neg hq]
 have hle:Gh.Le g g':=⟨rfl,rfl,λ_ _ h=>h,λq o u hu=>by
  rw[hold _ _ (λe=>by subst e;rw[k8]at hu;cases hu)];exact hu,λ_ _ h=>h,λ_ h=>h,λq o hq=>hold _ _ d6,λ_ _=>rfl⟩
 refine⟨g',vs,hle,rfl,λi u hu=>by
  have hi:i<vs.length:=by
   rcases ik i vs.length with h|h
   . exact h
   . simp[pn h]at hu
  rw[cK,tb,<-nO,k5,yp hi];exact hu,k6,?_⟩
 obtain⟨y,hy,_⟩:=St.xM hb;refine (h.weaken (St.xO U b)).change x.aR k2 hle rfl rfl ⟨rfl,rfl,rfl,da _⟩ (λ_ _ _=>rfl) hold (λ_ _=>rfl) (λo u hu=>?_) (λes c hr=>?_) (λb' x' p' h1 h2 e=>?_) (h.yr hy hx)
 . rw[tb]at hu;rw[cell_of_row _ _ _ cur x.e (0,0) k3];exact⟨hu,k7 u (fT (by rw[nO];exact hu))⟩
 . have hr:g.cY x.aR=some (es,c):=hr;rw[h.qd k3]at hr;cases hr
 . simp only[St.del]at h1;split at h1
   . cases h1
   . rename_i ne;exact ne (h.apart _ _ _ _ _ _ h1 hy h2 hx e)
def bT.VE{g:Gh}{U:St}{w:World}(h:bT g U w){m:Nat}{kv kv':List AV×List AV}{Ah:Array MapEntry}{clock Ae:Nat}(hm:U.mp m=some kv)(hg:g.mp m=some r)(hh:w.heap[r]?=some (.map es clock))
 (h1:Bg g kv'.1 kv'.2 Ah) (h2:nD Ah Ae) :
 bT g (U.aiR m kv') { w with heap:=w.heap.setIfInBounds r (Obj.map Ah Ae) }:=by
 obtain⟨p,hp,rfl⟩:=Gh.sK.1 hg;obtain⟨p',k1,k2,es0,cl0,k3,k4,k5,k6⟩:=h.live m _ (St.sK.1 hm);rw[hp]at k1;cases k1;have aA:=(nN.1 hh).1;have cD:∀k,k≠p.aR->(w.heap.setIfInBounds p.aR (Obj.map Ah Ae))[k]?=w.heap[k]?:=λk hk=>Array.getElem?_setIfInBounds_ne (Ne.symm hk);have tb:(w.heap.setIfInBounds p.aR (Obj.map Ah Ae))[p.aR]?=some (Obj.map Ah Ae):=by simp[aA]
 exact h.rewrite (St.sK.1 hm) hp ⟨rfl,rfl,rfl,d8⟩ (λk hk _=>cD k hk) (λo=>by
  cases e:g.du p.aR o with
  | none=>rfl
  | some u=>have:=(h.du _ _ _ e).1;simp[World.cell?,hh]at this) k6 ⟨Ah,Ae,tb,h2,h1,k6⟩
def bT.shut{g:Gh}{U:St}{w:World}(h:bT g U w)(hr:g.res r=true):bT { g with res:=λx=>if x=r then false else g.res x } U { w with heap:=w.heap.setIfInBounds r (Obj.deferred none) }:=by
 obtain⟨k2,hh⟩:=h.res r hr;have cD:∀k,k≠r->(w.heap.setIfInBounds r (Obj.deferred none))[k]?=w.heap[k]?:=λk hk=>Array.getElem?_setIfInBounds_ne (Ne.symm hk);have hl:Gh.xH g { g with res:=λx=>if x=r then false else g.res x }:=⟨λ_ _ h=>h,λ_ _ _ h=>h,λ_ _ h=>h⟩
 exact {
  below:=h.below.trans ⟨rfl,rfl,rfl,d8,λk hk=>cD k (by have:=h.le;omega)⟩
  le:=by simpa using h.le
  du:=λaR o u hi=>by
   have mE:=h.du _ _ _ hi;have:World.cell? { w with heap:=w.heap.setIfInBounds r (Obj.deferred none) } ⟨aR,o,none⟩=w.cell? ⟨aR,o,none⟩:=by
    simp only[World.cell?];rw[cD aR (λe=>by subst e;simp[World.cell?,hh]at mE)]
   rw[this];exact mE
  cY:=λr' es c hr=>by
   obtain⟨h1,h2⟩:=h.cY r' es c hr;refine⟨?_,h2⟩;show (w.heap.setIfInBounds r (Obj.deferred none))[r']?=_;rw[cD r' (λe=>by subst e;rw[hh]at h1;cases h1)];exact h1
  live:=λb x hb=>by
   obtain⟨p,h1,h2,h3⟩:=h.live b x hb;exact⟨p,h1,h2,h3.frame hl (cD _ (h3.Qi hh)) (λ_=>rfl) rfl⟩
  apart:=h.apart
  res:=λr' yc=>by
   have yc:(if r'=r then false else g.res r')=true:=yc
   split at yc
   . cases yc
   . rename_i e;obtain⟨q1,q2⟩:=h.res r' yc;exact⟨q1,by show (w.heap.setIfInBounds r (Obj.deferred none))[r']?=_;rw[cD r' e];exact q2⟩
  fin:=h.fin }
def bT.aeY{g:Gh}{U:St}{w:World}(h:bT g U w):Gh.Le g { g with res:=λx=>if x=w.heap.size then true else g.res x }/\bT { g with res:=λx=>if x=w.heap.size then true else g.res x } U (w.alloc (.deferred (some []))):=by
 have hl:Gh.xH g { g with res:=λx=>if x=w.heap.size then true else g.res x }:=⟨λ_ _ h=>h,λ_ _ _ h=>h,λ_ _ h=>h⟩
 refine⟨⟨rfl,rfl,λ_ _ h=>h,λ_ _ _ h=>h,λ_ _ h=>h,λb hb=>by show (if _ then _ else _)=_;split<;>simp_all,λ_ _ _=>rfl,λ_ _=>rfl⟩,?_⟩
 have hs:=h.grow (w.grownBy_alloc (.deferred (some [])) none);exact {
  below:=hs.below
  le:=hs.le
  du:=hs.du
  cY:=hs.cY
  live:=λb x hb=>by
   obtain⟨p,h1,h2,h3⟩:=hs.live b x hb;exact⟨p,h1,h2,h3.frame hl rfl (λ_=>rfl) rfl⟩
  apart:=hs.apart
  res:=λr hr=>by
   have hr:(if r=w.heap.size then true else g.res r)=true:=hr
   split at hr
   . rename_i e;subst e;exact⟨h.le,heap_alloc_new w _⟩
   . exact hs.res r hr
  fin:=hs.fin }
def oM:Value->Option AV
 | .bool b=>some (.bool b)
 | .int k n=>some (.int k n)
 | .string s=>some (.str s.data.toList)
 | .pointer none=>some .bE
 | .slice none 0 0=>some .af
 | .map none=>some .lK
 | .nilFunc=>some .eY
 | .nilIface=>some .eu
 | _=>none
def aaf:Option (List AV)->AV
 | some l=>.agg l
 | none=>.any
def Je:Value->AV
 | .agg cs=>aaf (cs.toList.mapM oM)
 | .func fn f c=>if f.isEmpty&&c.isEmpty then .func fn [] [] else .any
 | .tuple vs=>if vs.isEmpty then .az [] else .any
 | v=>(oM v).getD .any
def HX:TypeDesc->Bool
 | .struct _|.array _ _=>true
 | _=>false
def qE(P:Program)(t:TypeId):Option (Bool×Nat) :=
 match P.info? t,P.underlying t with
 | some i,some d=>some (HX d,i.size)
 | _,_=>none
def s8(P:Program)(t:TypeId):Option (List AV):=((P.info? t).bind (·.zero)).bind λz=>z.cells.toList.mapM oM
def ig(P:Program)(t:TypeId):Option (TypeId×Nat) :=
 match P.underlying t with
 | some (.slice e)=>match P.info? e with
   | some i=>match i.zero with
     | some z=>if z.cells.size=i.size/\0<i.size/\i.bytes<=32768/\z.cells.all (·.oneCell') then some (e,i.size) else none
     | none=>none
   | none=>none
 | _=>none
def CZ(P:Program)(s:TypeId)(f:Nat):Option Nat :=
 match P.underlying s with
 | some (.struct fields)=>match fields[f]? with
   | some x=>if P.cellsOf x.type≠0 then some x.offset else none
   | none=>none
 | _=>none
def EG(P:Program)(t:TypeId):Option (List (Nat×Nat)) :=
 match P.underlying t with
 | some (.struct fields)=>if fields.all (λf=>(P.info? f.type).isSome) then some (fields.toList.map λf=>(f.offset,P.cellsOf f.type)) else none
 | _=>none
def gP(P:Program)(f:FuncId):Bool :=
 match P.funcs[f]? with
 | some fn=>fn.body.isSome&&!(fn.name == "runtime.NumGoroutine")
 | none=>false
structure dQ where
 P:Program
 C2:Nat->AV
 fixed:Nat->Option (Array Value):=λ_=>none
def kz(C:dQ)(g:Gh):Prop:=(∀i,aB g (C.C2 i) (.pointer (some ⟨i,0,none⟩)))/\∀i cs,C.fixed i=some cs->i<g.base/\∃t fr,g.w0.heap[i]?=some (.cells cs t fr)
def kz.mono{C:dQ}{g:Gh}(h:kz C g)(hl:Gh.Le g g'):kz C g':=⟨λi=>(h.1 i).mono hl,λi cs hi=>by rw[hl.base,hl.w0];exact h.2 i cs hi⟩
structure Env where
 get:Nat->AV
def Env.put(ρ:Env)(d:Nat)(v:AV):Env:=⟨λt=>if t=d then v else ρ.get t⟩
def Env.ga(ρ:Env):Option Nat->AV->Env
 | some d,v=>ρ.put d v
 | none,_=>ρ
def Env.ev(C:dQ)(ρ:Env):Operand->AV
 | .tmp t=>ρ.get t
 | .const v=>Je v
 | .global g=>C.C2 g
 | .func f=>.func (.func f) [] []
def jO(g:Gh)(ρ:Env)(tmps:Array Value):Prop:=∀t,aB g (ρ.get t) (tmps.getD t undef)
variable {ρ:Env}
def jO.mono{g:Gh}(h:Gh.Le g g'){tmps:Array Value}(hr:jO g ρ tmps):jO g' ρ tmps:=λt=>(hr t).mono h
variable {x:AV}{v:Value}
def jO.put{g:Gh}{tmps:Array Value}(hr:jO g ρ tmps){d:Nat}(hd:d<tmps.size)(hx:aB g x v):jO g (ρ.put d x) (tmps.setIfInBounds d v):=λt=>by
 simp only[Env.put]
 by_cases ht:t=d
 . subst ht;rw[if_pos rfl];simpa [Array.getD,hd] using hx
 . rw[if_neg ht];have:=hr t;simp only[Array.getD_eq_getD_getElem?]at this ⊢;rw[Array.getElem?_setIfInBounds_ne (Ne.symm ht)];exact this
def Dz{g:Gh}(h:oM v=some x):aB g x v/\v.oneCell':=by
 unfold oM at h;split at h<;>first
  | (cases h;simp[aB,Value.oneCell'];done)
  | cases h
def gx{g:Gh}:∀{vs:List Value}{l:List AV},vs.mapM oM=some l->aJ g l vs/\∀u∈vs,u.oneCell'
 | [],l,h=>by
   simp at h;subst h;simp[aJ]
 | v::vs,l,h=>by
   simp only[List.mapM_cons,bind,Option.bind_eq_some_iff,pure,kP]at h;obtain⟨x,hx,l',yT,rfl⟩:=h;obtain⟨h1,h2⟩:=Dz (g:=g) hx;obtain⟨h3,h4⟩:=gx (g:=g) yT;refine⟨by simp only[aJ];exact⟨v,vs,rfl,h1,h3⟩,λu hu=>?_⟩;simp only[dy]at hu;rcases hu with rfl|hu
   . exact h2
   . exact h4 u hu
def SE{g:Gh}(v:Value):aB g ((oM v).getD .any) v:=by
 cases h:oM v with
 | none=>simp only[Option.getD_none,aB]
 | some x=>exact (Dz h).1
def Ia{g:Gh}(v:Value):aB g (Je v) v:=by
 cases v with
 | agg cs =>
   simp only[Je];cases h:cs.toList.mapM oM with
   | none=>simp only[aaf,aB]
   | some l=>simp only[aaf,aB];exact⟨cs.toList,d8,(gx (g:=g) h).2,(gx h).1⟩
 | func fn f c =>
   simp only[Je];split
   . rename_i h;simp only[cS,Array.isEmpty_iff]at h;obtain⟨rfl,rfl⟩:=h;simp only[aB];exact⟨[],[],rfl,by simp[aJ],by simp[aJ]⟩
   . simp only[aB]
 | tuple vs =>
   simp only[Je];split
   . rename_i h;simp only[Array.isEmpty_iff]at h;subst h;simp only[aB];exact⟨[],rfl,by simp[aJ]⟩
   . simp only[aB]
 | _=>simp only[Je];exact SE _
variable {a:Act}
def xQ{C:dQ}{g:Gh}(hG:kz C g)(hr:jO g ρ a.tmps)(x:Operand):aB g (ρ.ev C x) (a.eval x):=by
 cases x with
 | tmp t=>exact hr t
 | const v=>exact Ia v
 | global i=>exact hG.1 i
 | func f=>simp only[Env.ev,Act.eval,aB];exact⟨[],[],rfl,by simp[aJ],by simp[aJ]⟩
inductive NV where
 | box
 | tok (n:Nat) (l:List AV)
 | ms (n lx:Nat) (e:TypeId)
 | mp
 | it
def NV.at(b:Nat):NV->AV
 | .box=>.box b 0
 | .tok n l=>.vec n (.own b) l
 | .ms n lx e=>.ms b 0 n lx e
 | .mp=>.mp b
 | .it=>.it b
inductive aW where
 | val (v:AV)
 | kg (v:AV) (b:Nat) (x:Live)
 | new (k:NV) (del:Option Nat) (x:Live)
 | ov (b:Nat) (l:List (AV×Live))
 | enter (f:FuncId) (args:List AV)
 | yield (l:Nat) (args:List AV)
 | panic (v:AV)
 | cond (p:Prop) [d:Decidable p] (r:aW)
 | bad
abbrev aW.mU(l:List AV):aW:=.new .box none (.box l)
abbrev aW.qg(n:Nat)(l:List AV)(del:Option Nat)(t:Tok):aW:=.new (.tok n l) del (.tok t)
abbrev aW.rJ(n lx:Nat)(e:TypeId)(del:Option Nat)(l:List AV):aW:=.new (.ms n lx e) del (.box l)
abbrev aW.zc:aW:=.new .mp none (.mp [] [])
def St.wA(U:St):Option Nat->St
 | some b=>U.del b
 | none=>U
def aW.Fits(C:dQ)(g:Gh)(U:St):aW->Result Next->Prop
 | .val v,res=>∃u w' g',(res=.ok (.value u) w'\/(res=.ok .skip w'/\u=undef))/\Gh.Le g g'/\bT g' U w'/\aB g' v u
 | .kg v b x,res=>∃u w' g',(res=.ok (.value u) w'\/(res=.ok .skip w'/\u=undef))/\Gh.Le g g'/\bT g' (U.set b x) w'/\aB g' v u
 | .new k del x,res=>∃u w' g' b,res=.ok (.value u) w'/\(U.wA del).eO b/\Gh.Le g g'/\bT g' ((U.wA del).new b x) w'/\aB g' (k.at b) u
 | .ov b l,res=>∃u w' g' v x,res=.ok (.value u) w'/\(v,x)∈l/\Gh.Le g g'/\bT g' (U.set b x) w'/\aB g' v u
 | .enter f args,res=>∃vs w',res=.ok (.enter f (List.toArray vs)) w'/\bT g U w'/\aJ g args vs
 | .yield o args,res=>∃vs x w w',g.place o=some x/\res=(Instr.yield x.aR (List.toArray vs)).run C.P w/\w'=w/\bT g U w/\aJ g args vs
 | .panic v,res=>∃u w',res=.halt (.panic u) w'/\bT g U w'/\aB g v u
 | @aW.cond p _ r,res=>p->r.Fits C g U res
 | .bad,_=>True
def bQ{C:dQ}{g:Gh}{U:St}{w:World}{v:AV}(h:bT g U w)(hr:aB g v u):aW.Fits C g U (.val v) (.ok (.value u) w) :=
 ⟨u,w,g,.inl rfl,Gh.Le.refl g,h,hr⟩
def xG(n:Int):Prop:=-9223372036854775808<=n/\n<=9223372036854775807
instance (n:Int):Decidable (xG n):=inferInstanceAs (Decidable (_/\_))
def Cg{n:Int}(h:xG n):IntKind.i64.wrap n=n:=by
 obtain⟨h1,h2⟩:=h;have e:IntKind.i64.wrap n=if n%18446744073709551616>=9223372036854775808 then n%18446744073709551616-18446744073709551616 else n%18446744073709551616:=by
  simp[IntKind.wrap,IntKind.bits,IntKind.signed]
 rw[e];split<;>omega
def AI(P:Program)(t:TypeId):Bool:=match P.underlying t with|some .bool=>true|_=>false
def nI(P:Program)(t:TypeId):Bool:=match P.underlying t with|some (.interface _)=>true|_=>false
def pe(P:Program)(t:TypeId):Bool:=match P.underlying t with|some (.pointer _)=>true|_=>false
def te(P:Program)(t:TypeId):Bool:=match P.underlying t with|some (.slice _)=>true|_=>false
def kX(k:IntKind)(n:Int):aW :=
 match k with
 | .i64=>.cond (xG n) (.val (.int .i64 n))
 | k=>.val (.int k (k.wrap n))
inductive FK where
 | i
 | s
 | b
def rY:List FK->List AV->List AV->Option Bool
 | [],[],[]=>some true
 | .i::ks,.int k a::xs,.int k' b::ys=>if k=k' then (rY ks xs ys).map λr=>(a==b)&&r else none
 | .s::ks,.str a::xs,.str b::ys=>(rY ks xs ys).map λr=>(a==b)&&r
 | .b::ks,.bool a::xs,.bool b::ys=>(rY ks xs ys).map λr=>(a==b)&&r
 | _,_,_=>none
def TF(P:Program)(f:Field)(i:Nat):Option FK :=
 if f.offset=i/\f.name ≠ "_" then
  match P.underlying f.type with
  | some .bool=>some .b
  | some (.int _)=>some .i
  | some .string=>some .s
  | _=>none
 else none
def Ai(P:Program):List Field->Nat->Option (List FK)
 | [],_=>some []
 | f::fs,i=>match TF P f i,Ai P fs (i+1) with
   | some k,some ks=>some (k::ks)
   | _,_=>none
def Rl(P:Program)(t:TypeId):Option (List FK) :=
 match P.underlying t with
 | some (.struct fields)=>if P.stoodInHeld t=false/\P.eqGuardType P.depth t=false then Ai P fields.toList 0 else none
 | _=>none
def Pt(P:Program)(t:TypeId)(a b:List AV):Option Bool :=
 match Rl P t with
 | some ks=>rY ks a b
 | none=>none
def zX(f:Bool->AV):Option Bool->aW
 | some r=>.val (f r)
 | none=>.bad
def Q2(P:Program)(op:BinOp)(t:TypeId)(x y:AV):aW :=
 match op,x,y with
 | .add,.int k a,.int k' b=>if k=k' then kX k (a+b) else .bad
 | .sub,.int k a,.int k' b=>if k=k' then kX k (a-b) else .bad
 | .mul,.int k a,.int k' b=>if k=k' then kX k (a*b) else .bad
 | .quo,.int k a,.int k' b=>if k=k' then .cond (b≠0) (kX k (a.tdiv b)) else .bad
 | .rem,.int k a,.int k' b=>if k=k' then .cond (b≠0) (.val (.int k (a.tmod b))) else .bad
 | .and,.int k a,.int k' b=>if k=k' then .val (.int k (k.wrap (BitVec.ofInt k.bits a &&& BitVec.ofInt k.bits b).toNat)) else .bad
 | .or,.int k a,.int k' b=>if k=k' then .val (.int k (k.wrap (BitVec.ofInt k.bits a ||| BitVec.ofInt k.bits b).toNat)) else .bad
 | .eql,.int k a,.int k' b=>if k=k' then .val (.bool (a==b)) else .bad
 | .neq,.int k a,.int k' b=>if k=k' then .val (.bool (a != b)) else .bad
 | .lss,.int k a,.int k' b=>if k=k' then .val (.bool (decide (a<b))) else .bad
 | .leq,.int k a,.int k' b=>if k=k' then .val (.bool (decide (a<=b))) else .bad
 | .gtr,.int k a,.int k' b=>if k=k' then .val (.bool (decide (a > b))) else .bad
 | .geq,.int k a,.int k' b=>if k=k' then .val (.bool (decide (a>=b))) else .bad
 | .eql,.str a,.str b=>.val (.bool (a==b))
 | .neq,.str a,.str b=>.val (.bool (a != b))
 | .add,.str a,.str b=>.cond (a.length+b.length<=4294967296) (.val (.str (a++b)))
 | .eql,.bool a,.bool b=>if AI P t=true then .val (.bool (a==b)) else .bad
 | .neq,.bool a,.bool b=>if AI P t=true then .val (.bool (a != b)) else .bad
 | .eql,.agg a,.agg b=>zX .bool (Pt P t a b)
 | .neq,.agg a,.agg b=>zX (λr=>.bool (!r)) (Pt P t a b)
 | .eql,.iface _ _,.eu=>if nI P t=true then .val (.bool false) else .bad
 | .neq,.iface _ _,.eu=>if nI P t=true then .val (.bool true) else .bad
 | .eql,.bE,.bE=>if pe P t=true then .val (.bool true) else .bad
 | .eql,.box _ _,.bE=>if pe P t=true then .val (.bool false) else .bad
 | .neq,.bE,.bE=>if pe P t=true then .val (.bool false) else .bad
 | .neq,.box _ _,.bE=>if pe P t=true then .val (.bool true) else .bad
 | .eql,.dJ _,.bE=>if pe P t=true then .val (.bool false) else .bad
 | .neq,.dJ _,.bE=>if pe P t=true then .val (.bool true) else .bad
 | .eql,.af,.af=>if te P t=true then .val (.bool true) else .bad
 | .eql,.vec _ _ _,.af=>if te P t=true then .val (.bool false) else .bad
 | .eql,.ms _ _ _ _ _,.af=>if te P t=true then .val (.bool false) else .bad
 | _,_,_=>.bad
def isLit:Operand->Bool
 | .const _=>true
 | _=>false
def Lt(P:Program)(op:BinOp)(t:TypeId)(lit:Bool)(x y:AV):aW :=
 match op,x,y with
 | .eql,.eu,.eu=>if nI P t=true/\lit=true then .val (.bool true) else .bad
 | .neq,.eu,.eu=>if nI P t=true/\lit=true then .val (.bool false) else .bad
 | op,x,y=>Q2 P op t x y
def AV.scalar:AV->Bool
 | .agg _|.az _|.any=>false
 | _=>true
def al:AV->List AV
 | .agg l=>l
 | v=>[v]
def IM{g:Gh}(h:aB g x v)(hs:x.scalar):v.oneCell':=by
 cases x<;>simp only[AV.scalar,bW]at hs<;>simp only[aB]at h
 all_goals first
  | (subst h;rfl)
  | (obtain⟨_,_,rfl⟩:=h;rfl)
  | (obtain⟨_,_,_,rfl,_⟩:=h;rfl)
  | (obtain⟨_,_,_,_,rfl,_⟩:=h;rfl)
  | (obtain⟨_,_,_,rfl,_⟩:=h;rfl)
  | (obtain⟨_,_,rfl,_⟩:=h;rfl)
  | (obtain⟨_,rfl,_⟩:=h;rfl)
  | (obtain⟨_,_,_,_,rfl,_⟩:=h;rfl)
def AV.dC:AV->Bool
 | .az _|.any=>false
 | _=>true
def CT{g:Gh}{v:Value}(h:aB g x v)(hs:x.dC):aJ g (al x) v.cells.toList/\∀u∈v.cells.toList,u.oneCell':=by
 by_cases ha:∃l,x=.agg l
 . obtain⟨l,rfl⟩:=ha;simp only[aB]at h;obtain⟨vs,rfl,h1,h2⟩:=h;exact⟨by simpa [al,Value.cells] using h2,by simpa [Value.cells] using h1⟩
 . have hsc:x.scalar:=by cases x<;>simp_all [AV.dC,AV.scalar]
   have h1:=IM h hsc;have hc:al x=[x]:=by cases x<;>simp_all [al]
   have hv:v.cells=#[v]:=by cases v<;>simp_all [Value.cells,Value.oneCell']
   rw[hc,hv];exact⟨by simp only[aJ];exact⟨v,[],rfl,h,rfl⟩,by simpa using h1⟩
def o8(U:St):AV->Option (List AV)
 | .box b off=>(U.box b).map (·.drop off)
 | .dJ l=>some l
 | _=>none
def vB{g:Gh}{U:St}{w:World}(h:bT g U w){p:AV}(hp:aB g p v)(hl:o8 U p=some l) :
 ∃a vs,v=.pointer (some a)/\a.spot=none/\aJ g l vs/\∀j u,vs[j]?=some u->w.cell? (a.add j)=some u/\u.oneCell':=by
 have nG:∀aR off j,(⟨aR,off,none⟩:Addr).add j=⟨aR,off+j,none⟩:=λaR off j=>by unfold Addr.add;split<;>simp_all
 cases p<;>simp only[o8,reduceCtorEq]at hl
 . rename_i b off;cases hb:U.box b with
   | none=>simp[hb]at hl
   | some l0 =>
     simp[hb]at hl;subst hl;simp only[aB]at hp;obtain⟨x,hx,rfl⟩:=hp;obtain⟨x',cur,vs,rest,k1,k2,k3,k4,k5,k6,k7,k8⟩:=h.box b l0 hb;rw[hx]at k1;cases k1;refine⟨⟨x.aR,off,none⟩,vs.drop off,rfl,rfl,k6.drop off,λj u hu=>?_⟩;rw[nG,cell_of_row _ _ _ cur x.e (0,0) k3];rw[List.getElem?_drop]at hu;have aA:off+j<vs.length:=by
      rcases ik (off+j) vs.length with h|h
      . exact h
      . simp[pn h]at hu
     have:cur[off+j]?=some u:=by rw[<-nO,k5,yp aA];exact hu
     exact⟨this,k7 u (fT (by rw[nO];exact this))⟩
 . cases hl;simp only[aB]at hp;obtain⟨aR,off,vs,rfl,hi,hr⟩:=hp;exact⟨⟨aR,off,none⟩,vs,rfl,rfl,hr,λj u hu=>by rw[nG];exact h.du _ _ _ (hi j u hu)⟩
def kn:List AV->aW
 | x::_=>.val x
 | []=>.bad
def y6(P:Program)(t:TypeId)(p:AV)(U:St):aW :=
 match qE P t,o8 U p with
 | some (true,sz),some l=>.cond (sz<=l.length) (.val (.agg (l.take sz)))
 | some (false,_),some l=>kn l
 | _,_=>.bad
variable {sz:Nat}{P:Program}{t:TypeId}
def rC{b:Bool}(h:qE P t=some (b,sz)) :
 ∃i d,P.info? t=some i/\P.underlying t=some d/\HX d=b/\i.size=sz:=by
 unfold qE at h;split at h
 . rename_i i d hi hd;simp only[kP,jK]at h;exact⟨i,d,hi,hd,h.1,h.2⟩
 . cases h
variable {d:TypeDesc}
def oB(h:P.underlying t=some d)(w:World):(isAgg t).run P w=.ok (HX d) w:=by
 simp only[isAgg,dk,run_underlying h,dL];cases d<;>rfl
variable {i:TypeInfo}
def gy(h:P.info? t=some i)(w:World):(sizeOf t).run P w=.ok i.size w:=by
 simp[sizeOf,typeInfo,h]
variable {y:AV}
section
variable {C:dQ}{g:Gh}{U:St}{w:World}
def RZ(h:bT g U w){p:AV}(hp:aB g p v):aW.Fits C g U (y6 C.P t p U) ((do let x <- Instr.loadAt t v;pure (Next.value x):Sem Next).run C.P w):=by
 unfold y6;split
 . rename_i b sz l hv hl;obtain⟨i,d,hi,hd,hb,gj⟩:=rC hv;obtain⟨a,vs,rfl,ha,hr,hc⟩:=vB h hp hl;intro hle;have hlen:=hr.length;have jY:(loadCells a (vs.take sz).length).run C.P w=.ok (vs.take sz).toArray w :=
    run_loadCells_list (P:=C.P) w a (vs.take sz) λj u hu=>by
     rw[List.getElem?_take]at hu;split at hu
     . exact (hc j u hu).1
     . cases hu
   have qI:(vs.take sz).length=sz:=by simp;omega
   rw[qI]at jY;simp only[Instr.loadAt,Instr.sureAddr,loadVar,dk,dO,dL,oB hd,hb,if_true,gy hi,gj,jY,hX];have TN:∀u∈vs.take sz,u.oneCell':=λu hu=>by
    obtain⟨j,hj⟩:=List.getElem?_of_mem hu;rw[List.getElem?_take]at hj;split at hj
    . exact (hc j u hj).2
    . cases hj
   exact bQ h (by simp only[aB];exact⟨_,rfl,TN,hr.take sz⟩)
 . rename_i b sz l hv hl;obtain⟨i,d,hi,hd,hb,gj⟩:=rC hv;obtain⟨a,vs,rfl,ha,hr,hc⟩:=vB h hp hl;cases l with
   | nil=>trivial
   | cons x xs =>
     simp only[aJ]at hr;obtain⟨u,us,rfl,h1,h2⟩:=hr;have:=(hc 0 u rfl).1;have h0:a.add 0=a:=by simp[Addr.add]
     rw[h0]at this;simp only[Instr.loadAt,Instr.sureAddr,loadVar,dk,dO,dL,oB hd,hb,bW,if_false,run_load,this,hX];exact bQ h h1
 . trivial
def ax(l:List AV)(off:Nat)(cs:List AV):List AV:=l.take off++cs++l.drop (off+cs.length)
def NR(P:Program)(t:TypeId)(p v:AV)(U:St):aW :=
 match qE P t,p with
 | some (_,sz),.box b off=>match U.box b with
   | some l=>.cond (v.dC/\(al v).length=sz/\off+sz<=l.length) (.kg (.az []) b (.box (ax l off (al v))))
   | none=>.bad
 | _,_=>.bad
def AY(h:bT g U w){off:Nat}{x:Place}(hb:U.box b=some l)(hx:g.box b=some x){cs:List AV}{us:List Value}(hr:aJ g cs us)(h1:∀u∈us,u.oneCell')
 (sh:off+cs.length<=l.length):∃w',(storeCells ⟨x.aR,off,none⟩ us).run C.P w=.ok () w'/\bT g (U.c7 b (ax l off cs)) w':=by
 obtain⟨x',cur,vs,rest,k1,k2,k3,k4,k5,k6,k7,k8⟩:=h.box b l hb;rw[hx]at k1;cases k1;have yU:=hr.length;have qI:=k6.length;have gj:cur.size=vs.length+rest.length:=by rw[<-wH,k5,dx]
 have jY:=run_storeCells_at C.P x.aR off x.e us 0 cur w k3 d6 h1;simp only[Nat.add_zero]at jY;refine⟨_,jY,?_⟩;have e:cur.toList.take off++us++cur.toList.drop (off+us.length)=(vs.take off++us++vs.drop (off+us.length))++rest:=by
  rw[k5,List.take_append_of_le_length d6,List.drop_append_of_le_length d6];simp
 refine h.setRow hb hx _ (vs.take off++us++vs.drop (off+us.length)) rest ?_ (by simpa using e) ?_ ?_
 . rw[<-wH];have:=congrArg List.length e;simp only[dx,List.length_take,List.length_drop]at this;simp only[dx,List.length_take,List.length_drop,wH]at this ⊢;omega
 . unfold ax;rw[yU];exact ((k6.take off).append hr).append (k6.drop _)
 . intro u hu;simp only[gV]at hu;rcases hu with (hu|hu)|hu
   . exact k7 u (List.mem_of_mem_take hu)
   . exact h1 u hu
   . exact k7 u (List.mem_of_mem_drop hu)
def O6(h:bT g U w){p:AV}(hp:aB g p v)(hx:aB g x u):aW.Fits C g U (NR C.P t p x U) ((do Instr.storeAt t v u;pure Next.skip:Sem Next).run C.P w):=by
 unfold NR;split
 . rename_i bb sz b off hv;split
   . rename_i l hb;rintro⟨h1,h2,h3⟩;obtain⟨i,d,hi,hd,_,gj⟩:=rC hv;obtain⟨yR,EX⟩:=CT hx h1;simp only[aB]at hp;obtain⟨y,hy,rfl⟩:=hp;obtain⟨w',jY,hs⟩:=AY (C:=C) h hb hy yR EX (by rw[h2];exact h3);have hlen:u.cells.size=sz:=by rw[<-wH,yR.length];exact h2
     simp only[Instr.storeAt,Instr.sureAddr,storeVar,dk,dO,dL,gy hi,gj,hlen,ne_eq,not_true_eq_false,if_false,hX,jY];exact⟨undef,w',g,.inr ⟨rfl,rfl⟩,Gh.Le.refl g,hs,by simp only[aB];exact⟨[],rfl,by simp[aJ]⟩⟩
   . trivial
 . trivial
def Lq(t:TypeId):List AV->aW
 | [.bE,.af]=>.new .box none (.wV t [.bE,.af])
 | l=>.mU l
def Lp(P:Program)(t:TypeId):aW :=
 match s8 P t with
 | some l=>Lq t l
 | none=>.bad
def pY(hz:s8 P t=some l):∃i z,P.info? t=some i/\i.zero=some z/\z.cells.toList.mapM oM=some l:=by
 unfold s8 at hz;cases hi:P.info? t with
 | none=>simp[hi]at hz
 | some i =>
   cases ye:i.zero with
   | none=>simp[hi,ye]at hz
   | some z=>simp[hi,ye]at hz;exact⟨i,z,rfl,ye,hz⟩
def jL{z:Value}(hi:P.info? t=some i)(hz:i.zero=some z)(w:World):(zeroValue t).run P w=.ok z w:=by
 simp[zeroValue,typeInfo,hi,hz]
def Fl(h:bT g U w)(e:TypeId){cur:Array Value}(hl:aJ g l cur.toList)(h1:∀u∈cur.toList,u.oneCell') :
 aW.Fits C g U (.mU l) (.ok (.value (.pointer (some ⟨w.heap.size,0,none⟩))) (w.alloc (.cells cur e))):=by
 obtain⟨b,g',hb,hle,hx,hs⟩:=h.mU e cur cur.toList [] l d8 hl h1;exact⟨_,_,g',b,rfl,hb,hle,hs,by simp only[NV.at,aB];exact⟨_,hx,rfl⟩⟩
def Of(h:bT g U w):aW.Fits C g U (Lp C.P t) ((do let x <- Instr.alloc t true (.tuple #[]);pure (Next.value x):Sem Next).run C.P w):=by
 unfold Lp;split
 . rename_i l hz;obtain⟨i,z,hi,ye,hm⟩:=pY hz;obtain⟨h1,h2⟩:=gx (g:=g) hm;simp only[Instr.alloc,newVar,newRow,dk,dO,dL,jL hi ye,run_newObj];unfold Lq;split
   . have hlen:=h1.length;obtain⟨b,g',hb,hle,hx,hs⟩:=h.yk (.cells z.cells t) t z.cells.size (.wV t [.bE,.af]) λg' hle hi hm=>⟨rfl,by simpa using hlen,z.cells,z.cells.toList,[],heap_alloc_new w _,rfl,d8,h1.mono hle,h2,hi⟩;exact⟨_,_,g',b,rfl,hb,hle,hs,by simp only[NV.at,aB];exact⟨_,hx,rfl⟩⟩
   . exact Fl h t h1 h2
 . trivial
def CR(v:AV):aW:=.cond (v.dC) (.mU (al v))
def Te(h:bT g U w)(hx:aB g x u):aW.Fits C g U (CR x) ((do let y <- Instr.box t u;pure (Next.value y):Sem Next).run C.P w):=by
 intro hl;obtain⟨h1,h2⟩:=CT hx hl;simp only[Instr.box,newVar,newRow,dk,dO,dL,run_newObj];exact Fl h t h1 h2
def jf(x:AV):aW :=
 match x with
 | .box _ _|.dJ _|.func (.func _) _ _=>.val x
 | _=>.bad
def Bm(P:Program)(s:TypeId)(p:AV)(f:Nat):aW :=
 match CZ P s f,p with
 | some o,.box b off=>.val (.box b (off+o))
 | some o,.dJ l=>.val (.dJ (l.drop o))
 | _,_=>.bad
def Ox{s:TypeId}{f o:Nat}(h:CZ P s f=some o):∃fs x,P.underlying s=some (.struct fs)/\fs[f]?=some x/\P.cellsOf x.type≠0/\x.offset=o:=by
 unfold CZ at h;split at h
 . rename_i fs hu;split at h
   . rename_i x hx;split at h
     . rename_i hc;cases h;exact⟨fs,x,hu,hx,hc,rfl⟩
     . cases h
   . cases h
 . cases h
def Bw(h:ot g aR off vs):ot g aR (off+n) (vs.drop n):=λi u hu=>by
 rw[List.getElem?_drop]at hu;have:=h (n+i) u hu;rwa [Nat.add_assoc]
def GD(h:bT g U w){s f:Nat}{p:AV}(hp:aB g p v):aW.Fits C g U (Bm C.P s p f) ((do let x <- Instr.fieldAt s v f;pure (Next.value x):Sem Next).run C.P w):=by
 have nG:∀aR off j,(⟨aR,off,none⟩:Addr).add j=⟨aR,off+j,none⟩:=λaR off j=>by unfold Addr.add;split<;>simp_all
 have key:∀(o:Nat)(aR off:Nat),CZ C.P s f=some o->v=.pointer (some ⟨aR,off,none⟩) ->
  ((do let x <- Instr.fieldAt s v f;pure (Next.value x):Sem Next).run C.P w)=.ok (.value (.pointer (some ⟨aR,off+o,none⟩))) w:=λo aR off ho hv=>by
  obtain⟨fs,x,hu,hx,hc,rfl⟩:=Ox ho;subst hv;obtain⟨i,hi,hic⟩:∃i,C.P.info? x.type=some i/\i.size=C.P.cellsOf x.type:=by
   cases hi:C.P.info? x.type with
   | none=>simp[Program.cellsOf,hi]at hc
   | some i=>exact⟨i,rfl,by simp[Program.cellsOf,hi]⟩
  simp only[Instr.fieldAt,dk,dO,dL,run_underlying hu,hx,Instr.sureAddr,fieldPlace,gy hi,hic,if_neg hc,hX,nG]
 unfold Bm;split
 . rename_i o b off ho;simp only[aB]at hp;obtain⟨x,hx,hv⟩:=hp;rw[key o x.aR off ho hv];exact bQ h (by simp only[aB];exact⟨x,hx,rfl⟩)
 . rename_i o l ho;simp only[aB]at hp;obtain⟨aR,off,vs,hv,hi,hr⟩:=hp;rw[key o aR off ho hv];exact bQ h (by simp only[aB];exact⟨aR,off+o,vs.drop o,rfl,Bw hi,hr.drop o⟩)
 . trivial
def kU(h:ig P t=some (e,sz)) :
 ∃i z,P.underlying t=some (.slice e)/\P.info? e=some i/\i.zero=some z/\z.cells.size=sz/\i.size=sz/\0<sz/\i.bytes<=32768/\(∀u∈z.cells.toList,u.oneCell'):=by
 unfold ig at h;split at h
 . rename_i e' hu;split at h
   . rename_i i hi;split at h
     . rename_i z hz;split at h
       . rename_i hc;simp only[kP,jK]at h;obtain⟨rfl,rfl⟩:=h;refine⟨i,z,hu,hi,hz,hc.1,rfl,hc.2.1,hc.2.2.1,λu hu=>?_⟩;have:=hc.2.2.2;rw[Array.all_eq_true_iff_forall_mem]at this;exact this u (by simpa using hu)
       . cases h
     . cases h
   . cases h
 . cases h
def zz(P:Program)(t:TypeId):Option (Nat×TypeId×Nat) :=
 match P.underlying t with
 | some (.array n e)=>match P.info? e with
   | some i=>some (n,e,i.size)
   | none=>none
 | _=>none
def yK(h:zz P t=some (n,e,sz)):∃i,P.underlying t=some (.array n e)/\P.info? e=some i/\i.size=sz:=by
 unfold zz at h;split at h
 . rename_i n' e' hu;split at h
   . rename_i i hi;simp only[kP,jK]at h;obtain⟨rfl,rfl,rfl⟩:=h;exact⟨i,hu,hi,rfl⟩
   . cases h
 . cases h
def S7(P:Program)(t:TypeId)(x i:AV):aW :=
 match zz P t,x,i with
 | some (n,_,sz),.dJ l,.int _ j=>.cond (0<=j/\j<n) (.val (.dJ (l.drop (j.toNat*sz))))
 | some (n,_,sz),.box b off,.int _ j=>.cond (0<=j/\j<n) (.val (.box b (off+j.toNat*sz)))
 | _,_,_=>.bad
def Bx(P:Program)(t:TypeId)(x i:AV):aW :=
 match ig P t,x,i with
 | none,x,i=>S7 P t x i
 | some (_,sz),.vec n _ l,.int _ j=>.cond (0<=j/\j<n) (.val (.dJ (l.drop (j.toNat*sz))))
 | some (_,sz),.ms b off n lx _,.int _ j=>.cond (0<=j/\j<n/\lx=sz) (.val (.box b (off+j.toNat*sz)))
 | _,_,_=>.bad
def G8(h:bT g U w)(hx:aB g x v)(hy:aB g y u):aW.Fits C g U (Bx C.P t x y) ((do let x <- Instr.indexAt t v u;pure (Next.value x):Sem Next).run C.P w):=by
 have nG:∀aR off j,(⟨aR,off,none⟩:Addr).add j=⟨aR,off+j,none⟩:=λaR off j=>by unfold Addr.add;split<;>simp_all
 have key:∀(e:TypeId)(sz:Nat)(aR off n c:Nat)(k:IntKind)(j:Int),ig C.P t=some (e,sz)->v=.slice (some ⟨aR,off,none⟩) n c->u=.int k j->0<=j->j<n ->
  ((do let x <- Instr.indexAt t v u;pure (Next.value x):Sem Next).run C.P w)=.ok (.value (.pointer (some ⟨aR,off+j.toNat*sz,none⟩))) w:=λe sz aR off n c k j ho hv hu h0 h1=>by
  obtain⟨i,z,r9,hi,hz,_,gj,_⟩:=kU ho;subst hv hu;simp only[Instr.indexAt,asIntOf,dk,dO,dL,run_underlying r9,h0,h1,and_self,if_true,hX,gy hi,gj,nG]
 unfold Bx;split
 . unfold S7;split
   . rename_i n e sz l k j ha;rintro⟨h0,h1⟩;obtain⟨i,r9,hi,gj⟩:=yK ha;simp only[aB]at hx hy;obtain⟨aR,off,vs,rfl,mE,hr⟩:=hx;subst hy;simp only[Instr.indexAt,asIntOf,dk,dO,dL,run_underlying r9,Instr.sureAddr,h0,h1,and_self,if_true,hX,gy hi,gj,nG];exact bQ h (by simp only[aB];exact⟨aR,_,_,rfl,Bw mE,hr.drop _⟩)
   . rename_i n e sz b off k j ha;rintro⟨h0,h1⟩;obtain⟨i,r9,hi,gj⟩:=yK ha;simp only[aB]at hx hy;obtain⟨x,hb,rfl⟩:=hx;subst hy;simp only[Instr.indexAt,asIntOf,dk,dO,dL,run_underlying r9,Instr.sureAddr,h0,h1,and_self,if_true,hX,gy hi,gj,nG];exact bQ h (by simp only[aB];exact⟨x,hb,rfl⟩)
   . trivial
 . rename_i e sz n cap l k j hs;rintro⟨h0,h1⟩;simp only[aB]at hx hy;obtain⟨aR,off,c,vs,hv,_,_,_,hi,hr⟩:=hx;rw[key e sz aR off n c k j hs hv hy h0 h1];exact bQ h (by simp only[aB];exact⟨aR,_,_,rfl,Bw hi,hr.drop _⟩)
 . rename_i e sz b off n lx e' k j hs;rintro⟨h0,h1,rfl⟩;simp only[aB]at hx hy;obtain⟨x,c,hb,hv,_⟩:=hx;rw[key e lx x.aR off n c k j hs hv hy h0 h1];exact bQ h (by simp only[aB];exact⟨x,hb,rfl⟩)
 . trivial
def qe(P:Program)(t:TypeId):Bool:=match P.underlying t with|some .string=>true|_=>false
def G7(P:Program)(t:TypeId)(x i:AV):aW :=
 match x,i with
 | .str s,.int _ j=>if qe P t=true then .cond (0<=j/\j<s.length) (.val (.int .u8 (s.getD j.toNat 0).toNat)) else .bad
 | .agg l,.int _ j=>match zz P t with
   | some (n,e,sz)=>match qE P e with
     | some (false,_)=>.cond (0<=j/\j<n) (kn (l.drop (j.toNat*sz)))
     | some (true,k)=>.cond (0<=j/\j<n/\k=sz/\j.toNat*sz+sz<=l.length) (.val (.agg ((l.drop (j.toNat*sz)).take sz)))
     | none=>.bad
   | none=>.bad
 | _,_=>.bad
def sI(h:qe P t):P.underlying t=some .string:=by
 unfold qe at h;split at h
 . assumption
 . cases h
def OC(h:bT g U w)(hx:aB g x v)(hy:aB g y u):aW.Fits C g U (G7 C.P t x y) ((do let x <- Instr.index t v u;pure (Next.value x):Sem Next).run C.P w):=by
 unfold G7;split
 . rename_i s k j;split
   . rename_i ht;rintro⟨h0,h1⟩;simp only[aB]at hx hy;subst hx hy;have hj:j.toNat<s.length:=by omega
     have e:(ByteArray.mk s.toArray)[j.toNat]?=some (s.getD j.toNat 0):=by
      have gj:(ByteArray.mk s.toArray).size=s.length:=by simp[ByteArray.size]
      rw[getElem?_pos _ _ (by rw[gj];exact hj)];simp[pq,mP hj];rfl
     simp only[Instr.index,asIntOf,dk,dO,dL,run_underlying (sI ht),h0,if_true,e];exact bQ h (by simp only[aB])
   . trivial
 . rename_i l k j;split
   . rename_i n e sz ha;obtain⟨i,r9,hi,gj⟩:=yK ha;simp only[aB]at hx hy;subst hy;obtain⟨vs,rfl,TN,hr⟩:=hx;split
     . rename_i sz' hv;obtain⟨i',d,mE,hd,hb,_⟩:=rC hv;rintro⟨h0,h1⟩;cases hl:l.drop (j.toNat*sz) with
       | nil=>trivial
       | cons z zs =>
         have hz:l[j.toNat*sz]?=some z:=by
          have:=congrArg (λl=>l[0]?) hl;simpa using this
         obtain⟨u,JD,hzu⟩:=hr.get hz;have e1:vs.toArray[j.toNat*sz]?=some u:=by simpa using JD
         simp only[Instr.index,asIntOf,dk,dO,dL,run_underlying r9,h0,h1,and_self,if_true,hX,gy hi,gj,part,oB hd,hb,bW,if_false,e1];exact bQ h hzu
     . rename_i k' hv;obtain⟨i',d,mE,hd,hb,hk⟩:=rC hv;rw[hi]at mE;cases mE;rintro⟨h0,h1,rfl,h2⟩;simp only[Instr.index,asIntOf,dk,dO,dL,run_underlying r9,h0,h1,and_self,if_true,hX,gy hi,gj,part,oB hd,hb];refine bQ h ?_;simp only[aB];refine⟨(vs.drop (j.toNat*k')).take k',?_,λu hu=>TN u (List.mem_of_mem_drop (List.mem_of_mem_take hu)),(hr.drop _).take _⟩;congr 1;apply Array.ext';simp[List.extract_eq_take_drop]
     . trivial
   . trivial
 . trivial
end
section
variable {C:dQ}{g:Gh}{U:St}{w:World}
def ur{d:Nat}:∀(fs:List Field)(i:Nat)(ks:List FK)(xs ys:List AV)(us vs:Array Value)(r:Bool),Ai P fs i=some ks->rY ks xs ys=some r ->
 aJ g xs (us.toList.drop i)->aJ g ys (vs.toList.drop i)->(Op.eqFields (d+1) us vs fs).run P w=.ok r w
 | [],i,ks,xs,ys,us,vs,r,hk,he,_,_=>by
   simp only[Ai,kP]at hk;subst hk;cases xs<;>cases ys<;>simp only[rY,reduceCtorEq,kP]at he
   subst he;simp[Op.eqFields]
 | f::fs,i,ks,xs,ys,us,vs,r,hk,he,hx,hy=>by
   simp only[Ai]at hk;split at hk
   . rename_i k ks' hf TY;simp only[kP]at hk;subst hk;unfold TF at hf;split at hf
     . rename_i hc;obtain⟨ho,hn⟩:=hc;have adf:∀(us:Array Value)(u:Value),us[i]?=some u->∀dd,P.underlying f.type=some dd->HX dd=false->(part f.type us f.offset).run P w=.ok u w:=λus u hu dd hd ha=>by
        simp only[part,dk,oB hd,dL,ha,bW,if_false,ho,hu,dO,hX]
       have rH:∀{xs:List AV}{x:AV}{us:Array Value},aJ g (x::xs) (us.toList.drop i)->∃u,us[i]?=some u/\aB g x u/\aJ g xs (us.toList.drop (i+1)):=λ{xs x us}h=>by
        simp only[aJ]at h;obtain⟨u,rest,e,h1,h2⟩:=h;refine⟨u,?_,h1,?_⟩
        . have:=congrArg (λl=>l[0]?) e;simpa using this
        . have:=congrArg (List.drop 1) e;rw[List.drop_drop]at this;rw[this];simpa using h2
       have As:∀(u v:Value)(q r':Bool)(dd:TypeDesc),us[i]?=some u->vs[i]?=some v->P.underlying f.type=some dd->HX dd=false->(Op.equalIn (d+1) f.type u v).run P w=.ok q w ->
        (Op.eqFields (d+1) us vs fs).run P w=.ok r' w->(Op.eqFields (d+1) us vs (f::fs)).run P w=.ok (q&&r') w:=λu v q r' dd hu hv hd ha heq ajU=>by
        simp only[Op.eqFields,if_pos hn,dk,adf us u hu dd hd ha,adf vs v hv dd hd ha,dL,heq,hX,dO,ajU];cases q<;>simp
       split at hf
       . rename_i hd;cases hf;cases xs with
         | nil=>simp[rY]at he
         | cons x xs =>
           cases ys with
           | nil=>cases x<;>simp[rY]at he
           | cons y ys =>
             cases x<;>cases y<;>simp only[rY,reduceCtorEq]at he
             cases hr:rY ks' xs ys with
             | none=>simp[hr]at he
             | some r' =>
               simp[hr]at he;subst he;obtain⟨u,hu,JF,lJ⟩:=rH hx;obtain⟨v,hv,JG,Df⟩:=rH hy;simp only[aB]at JF JG;subst JF JG;have:=As _ _ _ r' _ hu hv hd rfl (run_equalIn_bool' w d f.type _ _ hd) (ur fs (i+1) ks' xs ys us vs r' TY hr lJ Df);rw[this]
       . rename_i kk hd;cases hf;cases xs with
         | nil=>simp[rY]at he
         | cons x xs =>
           cases ys with
           | nil=>cases x<;>simp[rY]at he
           | cons y ys =>
             cases x<;>cases y<;>simp only[rY,reduceCtorEq]at he
             split at he
             . rename_i e;subst e;cases hr:rY ks' xs ys with
               | none=>simp[hr]at he
               | some r' =>
                 simp[hr]at he;subst he;obtain⟨u,hu,JF,lJ⟩:=rH hx;obtain⟨v,hv,JG,Df⟩:=rH hy;simp only[aB]at JF JG;subst JF JG;have:=As _ _ _ r' _ hu hv hd rfl (run_equalIn_int w d f.type _ _ _ _ hd) (ur fs (i+1) ks' xs ys us vs r' TY hr lJ Df);rw[this]
             . cases he
       . rename_i hd;cases hf;cases xs with
         | nil=>simp[rY]at he
         | cons x xs =>
           cases ys with
           | nil=>cases x<;>simp[rY]at he
           | cons y ys =>
             cases x<;>cases y<;>simp only[rY,reduceCtorEq]at he
             cases hr:rY ks' xs ys with
             | none=>simp[hr]at he
             | some r' =>
               simp[hr]at he;subst he;obtain⟨u,hu,JF,lJ⟩:=rH hx;obtain⟨v,hv,JG,Df⟩:=rH hy;simp only[aB]at JF JG;subst JF JG;have:=As _ _ _ r' _ hu hv hd rfl (run_equalIn_string w d f.type _ _ hd) (ur fs (i+1) ks' xs ys us vs r' TY hr lJ Df);rw[this];simp[ByteArray.toList_eq]
       . cases hf
     . cases hf
   . cases hk
def Hy{a b:List AV}{us:List Value}{r:Bool}(h:Pt P t a b=some r)(ha:aJ g a us)(hb:aJ g b vs) :
 (Op.equalIn 10000 t (.agg us.toArray) (.agg vs.toArray)).run P w=.ok r w/\P.eqGuardType P.depth t=false:=by
 unfold Pt at h;split at h
 . rename_i ks ju;unfold Rl at ju;split at ju
   . rename_i fs hu;split at ju
     . rename_i hc;have gY:P.fieldsOf t=fs:=by simp[Program.fieldsOf,hu]
       refine⟨?_,hc.2⟩;rw[run_equalIn_struct w 9999 t _ _ (by rw[gY];exact hu) hc.1,gY];exact ur (d:=9998) fs.toList 0 ks a b _ _ r ju h (by simpa using ha) (by simpa using hb)
     . cases ju
   . cases ju
 . cases h
def wU(w:World)(d:Nat)(t:TypeId)(ms:Array (String×TypeId))(h:P.underlying t=some (.interface ms))(a:TypeId)(b:Value):(Op.equalIn (d+1) t (.iface a b) .nilIface).run P w=.ok false w:=by
 simp[Op.equalIn,run_underlying h]
def mH(w:World)(d:Nat)(t e:TypeId)(h:P.underlying t=some (.pointer e))(a:Option Addr):(Op.equalIn (d+1) t (.pointer a) (.pointer none)).run P w=.ok a.isNone w:=by
 cases a<;>simp[Op.equalIn,run_underlying h]
def rp(w:World)(d:Nat)(t e:TypeId)(h:P.underlying t=some (.slice e))(a:Option Addr)(n c:Nat):(Op.equalIn (d+1) t (.slice a n c) (.slice none 0 0)).run P w=.ok a.isNone w:=by
 cases a<;>simp[Op.equalIn,run_underlying h]
def uu(w:World)(d:Nat)(t:TypeId)(ms:Array (String×TypeId))(h:P.underlying t=some (.interface ms)):(Op.equalIn (d+1) t .nilIface .nilIface).run P w=.ok true w:=by
 simp[Op.equalIn,run_underlying h]
def Tb(h:bT g U w){op:BinOp}{t:TypeId}(X Y:Operand)(hx:aB g x u)(hy:aB g y v) :
 aW.Fits C g U (Q2 C.P op t x y) ((do let r <- (do eqGuard op t X Y u v;binOp op t u v:Sem Value);pure (Next.value r):Sem Next).run C.P w):=by
 have hI:∀(k:IntKind)(n:Int),aW.Fits C g U (kX k n) (.ok (.value (.int k (k.wrap n))) w):=λk n=>by
  unfold kX;split
  . intro hi;rw[Cg hi];exact bQ h (by simp only[aB])
  . exact bQ h (by simp only[aB])
 unfold Q2;split
 all_goals first
  | trivial
  | skip
 all_goals simp only[aB]at hx hy
 all_goals first
  | (subst hx hy
     split
     . rename_i e;subst e
       first
        | (simp only[eqGuard,binOp,ne_eq,not_true_eq_false,if_false,Op.intArith,Op.intCmp,Op.intBits,dk,dO,dL,Bool.not_eq_true',Bool.true_eq_false,cL,dS,bW,if_true,hX]
           first
            | exact hI _ _
            | exact bQ h (by simp only[aB]))
        | (intro hb
           simp only[eqGuard,binOp,ne_eq,not_true_eq_false,if_false,Op.intDiv,if_neg hb,dk,dO,dL,Bool.not_eq_true',Bool.true_eq_false,cL,dS,bW,if_true,hX]
           first
            | exact hI _ _
            | exact bQ h (by simp only[aB]))
     . trivial)
  | skip
 . subst hx hy;simp only[eqGuard,binOp,Op.stringOp,dk,dO,dL,cL,bW,if_false,hX,ByteArray.toList_eq,List.toList_toArray];exact bQ h (by simp only[aB])
 . subst hx hy;simp only[eqGuard,binOp,Op.stringOp,dk,dO,dL,cL,bW,if_false,hX,ByteArray.toList_eq,List.toList_toArray];exact bQ h (by simp only[aB];rfl)
 . subst hx hy;rename_i a b;intro hle;have h1:¬ (((ByteArray.mk a.toArray).size+(ByteArray.mk b.toArray).size:Nat):Int) > IntKind.i64.max:=by
    have e1:(ByteArray.mk a.toArray).size=a.length:=by simp[ByteArray.size]
    have e2:(ByteArray.mk b.toArray).size=b.length:=by simp[ByteArray.size]
    have e3:IntKind.i64.max=9223372036854775807:=by simp[IntKind.max,IntKind.signed,IntKind.bits]
    rw[e1,e2,e3];omega
   have h2:(ByteArray.mk a.toArray)++(ByteArray.mk b.toArray)=ByteArray.mk (a++b).toArray:=by
    apply ByteArray.ext;simp
   simp only[eqGuard,binOp,Op.stringOp,dk,dO,dL,if_neg h1,hX,cL,dS,bW,if_true,if_false,h2];exact bQ h (by simp only[aB])
 . subst hx hy;split
   . rename_i ht;have hu:C.P.underlying t=some .bool:=by unfold AI at ht;split at ht<;>simp_all
     have hr:=run_equalIn_bool' (P:=C.P) w 9999 t;simp only[eqGuard,binOp,Op.equal,Op.maxDepth,dk,dO,dL,hr _ _ hu,cL,bW,if_false,hX];exact bQ h (by simp only[aB])
   . trivial
 . subst hx hy;split
   . rename_i ht;have hu:C.P.underlying t=some .bool:=by unfold AI at ht;split at ht<;>simp_all
     have hr:=run_equalIn_bool' (P:=C.P) w 9999 t;simp only[eqGuard,binOp,Op.equal,Op.maxDepth,dk,dO,dL,hr _ _ hu,cL,bW,if_false,hX];exact bQ h (by simp only[aB];rfl)
   . trivial
 . rename_i a b;obtain⟨us,rfl,_,ha⟩:=hx;obtain⟨vs,rfl,_,hb⟩:=hy;cases he:Pt C.P t a b with
   | none=>trivial
   | some r =>
     obtain⟨h1,h2⟩:=Hy (w:=w) he ha hb;simp only[zX,dk,run_eqGuard_agg w _ _ _ _ _ _ h2,dL,run_eql_struct,h1,dO];exact bQ h (by simp only[aB])
 . rename_i a b;obtain⟨us,rfl,_,ha⟩:=hx;obtain⟨vs,rfl,_,hb⟩:=hy;cases he:Pt C.P t a b with
   | none=>trivial
   | some r =>
     obtain⟨h1,h2⟩:=Hy (w:=w) he ha hb;simp only[zX,dk,run_eqGuard_agg w _ _ _ _ _ _ h2,dL,run_neq_struct,h1,dO];exact bQ h (by simp only[aB])
 . obtain⟨u',rfl,_⟩:=hx;subst hy;split
   . rename_i ht;obtain⟨ms,hu⟩:∃ms,C.P.underlying t=some (.interface ms):=by unfold nI at ht;split at ht<;>simp_all
     have hr:=wU (P:=C.P) w 9999 t ms hu;simp only[eqGuard,binOp,Op.equal,Op.maxDepth,hr,dk,dO,dL,cL,bW,if_false,hX];exact bQ h (by simp only[aB])
   . trivial
 . obtain⟨u',rfl,_⟩:=hx;subst hy;split
   . rename_i ht;obtain⟨ms,hu⟩:∃ms,C.P.underlying t=some (.interface ms):=by unfold nI at ht;split at ht<;>simp_all
     have hr:=wU (P:=C.P) w 9999 t ms hu;simp only[eqGuard,binOp,Op.equal,Op.maxDepth,hr,dk,dO,dL,cL,dS,bW,if_false,hX];exact bQ h (by simp only[aB])
   . trivial
 . subst hx hy;split
   . rename_i ht;obtain⟨ms,hu⟩:∃ms,C.P.underlying t=some (.pointer ms):=by unfold pe at ht;split at ht<;>simp_all
     have hr:=mH (P:=C.P) w 9999 t ms hu;simp only[eqGuard,binOp,Op.equal,Op.maxDepth,hr,dk,dO,dL,Option.isNone_none,cL,dS,bW,if_false,hX];exact bQ h (by simp[aB])
   . trivial
 . obtain⟨x,_,rfl⟩:=hx;subst hy;split
   . rename_i ht;obtain⟨ms,hu⟩:∃ms,C.P.underlying t=some (.pointer ms):=by unfold pe at ht;split at ht<;>simp_all
     have hr:=mH (P:=C.P) w 9999 t ms hu;simp only[eqGuard,binOp,Op.equal,Op.maxDepth,hr,dk,dO,dL,Option.isNone_none,cL,dS,bW,if_false,hX];exact bQ h (by simp[aB])
   . trivial
 . subst hx hy;split
   . rename_i ht;obtain⟨ms,hu⟩:∃ms,C.P.underlying t=some (.pointer ms):=by unfold pe at ht;split at ht<;>simp_all
     have hr:=mH (P:=C.P) w 9999 t ms hu;simp only[eqGuard,binOp,Op.equal,Op.maxDepth,hr,dk,dO,dL,Option.isNone_none,cL,dS,bW,if_false,hX];exact bQ h (by simp[aB])
   . trivial
 . obtain⟨x,_,rfl⟩:=hx;subst hy;split
   . rename_i ht;obtain⟨ms,hu⟩:∃ms,C.P.underlying t=some (.pointer ms):=by unfold pe at ht;split at ht<;>simp_all
     have hr:=mH (P:=C.P) w 9999 t ms hu;simp only[eqGuard,binOp,Op.equal,Op.maxDepth,hr,dk,dO,dL,Option.isNone_none,cL,dS,bW,if_false,hX];exact bQ h (by simp[aB])
   . trivial
 . obtain⟨_,_,_,rfl,_⟩:=hx;subst hy;split
   . rename_i ht;obtain⟨ms,hu⟩:∃ms,C.P.underlying t=some (.pointer ms):=by unfold pe at ht;split at ht<;>simp_all
     have hr:=mH (P:=C.P) w 9999 t ms hu;simp only[eqGuard,binOp,Op.equal,Op.maxDepth,hr,dk,dO,dL,Option.isNone_none,cL,dS,bW,if_false,hX];exact bQ h (by simp[aB])
   . trivial
 . obtain⟨_,_,_,rfl,_⟩:=hx;subst hy;split
   . rename_i ht;obtain⟨ms,hu⟩:∃ms,C.P.underlying t=some (.pointer ms):=by unfold pe at ht;split at ht<;>simp_all
     have hr:=mH (P:=C.P) w 9999 t ms hu;simp only[eqGuard,binOp,Op.equal,Op.maxDepth,hr,dk,dO,dL,Option.isNone_none,cL,dS,bW,if_false,hX];exact bQ h (by simp[aB])
   . trivial
 . subst hx;subst hy;split
   . rename_i ht;obtain⟨ms,hu⟩:∃ms,C.P.underlying t=some (.slice ms):=by unfold te at ht;split at ht<;>simp_all
     have hr:=rp (P:=C.P) w 9999 t ms hu;simp only[eqGuard,binOp,Op.equal,Op.maxDepth,hr,dk,dO,dL,Option.isNone_none,Option.isNone_some,cL,dS,bW,if_false,hX];exact bQ h (by simp[aB])
   . trivial
 . obtain⟨_,_,_,_,rfl,_⟩:=hx;subst hy;split
   . rename_i ht;obtain⟨ms,hu⟩:∃ms,C.P.underlying t=some (.slice ms):=by unfold te at ht;split at ht<;>simp_all
     have hr:=rp (P:=C.P) w 9999 t ms hu;simp only[eqGuard,binOp,Op.equal,Op.maxDepth,hr,dk,dO,dL,Option.isNone_none,Option.isNone_some,cL,dS,bW,if_false,hX];exact bQ h (by simp[aB])
   . trivial
 . obtain⟨_,_,_,rfl,_⟩:=hx;subst hy;split
   . rename_i ht;obtain⟨ms,hu⟩:∃ms,C.P.underlying t=some (.slice ms):=by unfold te at ht;split at ht<;>simp_all
     have hr:=rp (P:=C.P) w 9999 t ms hu;simp only[eqGuard,binOp,Op.equal,Op.maxDepth,hr,dk,dO,dL,Option.isNone_none,Option.isNone_some,cL,dS,bW,if_false,hX];exact bQ h (by simp[aB])
   . trivial
def Tc(h:bT g U w){op:BinOp}{t:TypeId}(X Y:Operand)(hx:aB g x u)(hy:aB g y v) :
 aW.Fits C g U (Lt C.P op t (isLit X||isLit Y) x y) ((do let r <- (do eqGuard op t X Y u v;binOp op t u v:Sem Value);pure (Next.value r):Sem Next).run C.P w):=by
 have key:∀(op:BinOp),(op=.eql\/op=.neq)->nI C.P t->(isLit X||isLit Y)->(eqGuard op t X Y .nilIface .nilIface).run C.P w=.ok () w:=λop hop ht hl=>by
  obtain⟨ms,hu⟩:∃ms,C.P.underlying t=some (.interface ms):=by unfold nI at ht;split at ht<;>simp_all
  rcases hop with rfl|rfl<;>cases X<;>cases Y<;>simp[isLit]at hl<;>simp[eqGuard]
 unfold Lt;split
 . simp only[aB]at hx hy;subst hx hy;split
   . rename_i ht;obtain⟨ms,hu⟩:∃ms,C.P.underlying t=some (.interface ms):=by have ht:=ht.1;unfold nI at ht;split at ht<;>simp_all
     have hr:=uu (P:=C.P) w 9999 t ms hu;simp only[dk,key _ (.inl rfl) ht.1 ht.2,binOp,Op.equal,Op.maxDepth,hr,dO,dL,cL,dS,bW,if_false,hX];exact bQ h (by simp[aB])
   . trivial
 . simp only[aB]at hx hy;subst hx hy;split
   . rename_i ht;obtain⟨ms,hu⟩:∃ms,C.P.underlying t=some (.interface ms):=by have ht:=ht.1;unfold nI at ht;split at ht<;>simp_all
     have hr:=uu (P:=C.P) w 9999 t ms hu;simp only[dk,key _ (.inr rfl) ht.1 ht.2,binOp,Op.equal,Op.maxDepth,hr,dO,dL,cL,dS,bW,if_false,hX];exact bQ h (by simp[aB])
   . trivial
 . exact Tb h X Y hx hy
end
variable {ty:TypeId}
section
variable {C:dQ}{g:Gh}{U:St}{w:World}
def QY(P:Program)(t u:TypeId):Option (TypeId×Nat) :=
 match P.underlying u with
 | some (.slice _)=>ig P t
 | some .string=>match ig P t with
   | some (e,1)=>some (e,1)
   | _=>none
 | _=>none
def qD(U:St):AV->Option (Nat×List AV)
 | .vec m _ l=>some (m,l)
 | .af=>some (0,[])
 | .ms b off m lx _=>match U.box b with
   | some l=>some (m,(l.drop off).take (m*lx))
   | none=>none
 | .str s=>some (s.length,s.map λb=>.int .u8 b.toNat)
 | _=>none
def HZ(P:Program)(t u:TypeId)(mu:Bool)(s y:AV)(U:St):aW :=
 match QY P t u,qD U y with
 | some (e,sz),some (m,l2) =>
   .cond (l2.length=m*sz) (match s with
   | .af=>if m=0 then .val .af else .cond (m<=4294967296) (if mu then .rJ m sz e none l2 else .qg m l2 none ⟨m,e,sz⟩)
   | .vec n .full l=>if m=0 then .val s else .cond (l.length=n*sz/\n+m<=4294967296) (.qg (n+m) (l++l2) none ⟨n+m,e,sz⟩)
   | .vec n (.own τ) l=>.cond (U.tok τ=some ⟨n,e,sz⟩/\l.length=n*sz/\n+m<=4294967296) (.qg (n+m) (l++l2) (some τ) ⟨n+m,e,sz⟩)
   | .ms b off n lx e'=>match U.box b with
     | some l=>.cond (off=0/\lx=sz/\e'=e/\n*sz<=l.length/\n+m<=4294967296) (.rJ (n+m) sz e (some b) (l.take (n*sz)++l2))
     | none=>.bad
   | _=>.bad)
 | _,_=>.bad
def S6{u:TypeId}(h:QY P t u=some (e,sz)):ig P t=some (e,sz)/\∃d,P.underlying u=some d/\((∃x,d=.slice x)\/d=.string):=by
 unfold QY at h;split at h
 . rename_i x hx;exact⟨h,_,hx,.inl ⟨x,rfl⟩⟩
 . rename_i hx;split at h
   . rename_i e' he;simp only[kP,jK]at h;obtain⟨rfl,rfl⟩:=h;exact⟨he,_,hx,.inr rfl⟩
   . cases h
 . cases h
def ZO(h:bT g U w)(hy:aB g y v){m:Nat}{l2:List AV}(hs:qD U y=some (m,l2))(hl:l2.length=m*sz) :
 (∀W,(Builtin.lenOf v).run C.P W=.ok m W)/\∃us:List Value,aJ g l2 us/\(∀u∈us,u.oneCell')/\∀W:World,W.heap=w.heap->(Builtin.firstCells sz m v).run C.P W=.ok us.toArray W:=by
 have nG:∀aR off j,(⟨aR,off,none⟩:Addr).add j=⟨aR,off+j,none⟩:=λaR off j=>by unfold Addr.add;split<;>simp_all
 have sP:∀(W:World)a,W.heap=w.heap->W.cell? a=w.cell? a:=λW a hW=>by simp[World.cell?,hW]
 have read:∀(aR off c:Nat)(us:List Value),us.length=m*sz->(∀j u,us[j]?=some u->w.cell? ⟨aR,off+j,none⟩=some u)->∀W:World,W.heap=w.heap ->
  (Builtin.firstCells sz m (.slice (some ⟨aR,off,none⟩) m c)).run C.P W=.ok us.toArray W:=λaR off c us hlen hc W hW=>by
  exact run_firstCells_some W sz m ⟨aR,off,none⟩ m c us hlen (λj u hu=>by rw[nG,sP W _ hW];exact hc j u hu)
 cases y<;>simp only[qD,reduceCtorEq,kP,jK]at hs
 . rename_i s;obtain⟨rfl,rfl⟩:=hs;simp only[aB]at hy;subst hy;have gj:(ByteArray.mk s.toArray).size=s.length:=by simp[ByteArray.size]
   refine⟨λW=>by simp[Builtin.lenOf,gj],s.map (λb=>Value.int .u8 b.toNat),?_,by simp[Value.oneCell'],λW _=>?_⟩
   . refine aJ.Hm d8 λi x u hx hu=>?_;simp only[po,so]at hx hu;obtain⟨b,hb,rfl⟩:=hx;obtain⟨b',fi,rfl⟩:=hu;rw[hb]at fi;cases fi;simp only[aB]
   . simp only[Builtin.firstCells,dO];congr 1;apply Array.ext';simp
 . obtain⟨rfl,rfl⟩:=hs;simp only[aB]at hy;subst hy;exact⟨λW=>by simp[Builtin.lenOf],[],by simp[aJ],d8,λW _=>by simp[Builtin.firstCells]⟩
 . rename_i n cap l;obtain⟨rfl,rfl⟩:=hs;simp only[aB]at hy;obtain⟨aR,off,c,vs,rfl,_,_,_,hi,hr⟩:=hy;exact⟨λW=>by simp[Builtin.lenOf],vs,hr,λu hu=>by
    obtain⟨j,hj⟩:=List.getElem?_of_mem hu;exact (h.du _ _ _ (hi j u hj)).2,read aR off c vs (by rw[hr.length,hl]) λj u hu=>(h.du _ _ _ (hi j u hu)).1⟩
 . rename_i b off n lx e';split at hs
   . rename_i l hb;simp only[kP,jK]at hs;obtain⟨rfl,rfl⟩:=hs;simp only[aB]at hy;obtain⟨x,c,hx,rfl,_,_,_,_⟩:=hy;obtain⟨a,vs,hv,ha,hr,hc⟩:=vB h (p:=.box b off) (v:=.pointer (some ⟨x.aR,off,none⟩)) (l:=l.drop off) (by simp only[aB];exact⟨x,hx,rfl⟩) (by simp[o8,hb]);cases hv;refine⟨λW=>by simp[Builtin.lenOf],vs.take (n*lx),hr.take _,λu hu=>?_,read x.aR off c _ (by rw[(hr.take _).length,hl]) λj u hu=>?_⟩
     . obtain⟨j,hj⟩:=List.getElem?_of_mem hu;rw[List.getElem?_take]at hj;split at hj
       . exact (hc j u hj).2
       . cases hj
     . rw[List.getElem?_take]at hu;split at hu
       . have:=(hc j u hu).1;rwa [nG]at this
       . cases hu
   . cases hs
def rR{w:World}{u ty:TypeId}(ht:P.underlying t=some (.slice e))(hu:P.underlying u=some d)(hd:(∃x,d=.slice x)\/d=.string)(hi:P.info? e=some i)
 {base:Option Addr} {n c m:Nat} {v:Value} {us:List Value} (hm:∀W,(Builtin.lenOf v).run P W=.ok m W) (hf:(Builtin.firstCells i.size m v).run P w=.ok us.toArray w) (sQ:n+m<=c) :
 (Builtin.append_ #[t,u] ty #[.slice base n c,v]).run P w=match base with
   | some a=>((storeCells (a.add (n*i.size)) us).run P w).andThen λ_ w'=>.ok (.slice base (n+m) c) w'
   | none=>.ok (.slice base (n+m) c) w:=by
 rcases hd with ⟨x,rfl⟩|rfl<;>cases base <;>
  simp[Builtin.append_,run_underlying ht,run_underlying hu,sizeOf,typeInfo,hi,hm,sQ,hf]
def IK{w:World}{u ty:TypeId}{z:Value}(ht:P.underlying t=some (.slice e))(hu:P.underlying u=some d)(hd:(∃x,d=.slice x)\/d=.string)(hi:P.info? e=some i)(hz:i.zero=some z)(GR:i.bytes<=32768)
 {base:Option Addr} {n c m:Nat} {v:Value} {DB us:List Value} (hm:∀W,(Builtin.lenOf v).run P W=.ok m W) (hf:∀W:World,W.heap=w.heap->(Builtin.firstCells i.size m v).run P W=.ok us.toArray W)
 (ho:∀W:World,W.heap=w.heap->(Builtin.firstCells i.size n (.slice base n c)).run P W=.ok DB.toArray W) (akT:c<n+m) (lg:n+m<=4294967296) :
 (Builtin.append_ #[t,u] ty #[.slice base n c,v]).run P w =
   .ok (.slice (some ⟨w.heap.size,0,none⟩) (n+m) (grownCap w (n+m) c e))
    (w.drew.alloc (.cells (DB.toArray++us.toArray++Builtin.zeroCells z.cells (grownCap w (n+m) c e-(n+m))) e)):=by
 have sQ:¬ (n+m<=c):=by omega
 have aaT:¬ (9223372036854775807<((n:Int)+(m:Int))):=by omega
 have iq:(n+m)*i.bytes<=140737488355328:=Nat.le_trans (Nat.mul_le_mul lg GR) d6;have Jm:=growslice_fits (old:=c) (need:=n+m) (bytes:=i.bytes) d6 iq;have aaS:¬ (281474976710656<Builtin.nextslicecap (n+m) c*i.bytes):=by omega
 have nv:=hf w.drew rfl;have ho':=ho w.drew rfl;rcases hd with ⟨x,rfl⟩|rfl <;>
 . simp[Builtin.append_,run_underlying ht,run_underlying hu,sizeOf,typeInfo,zeroValue,hi,hz,hm,sQ,aaT,aaS,Question.forced,nv,ho',newRow,grownCap];congr 2;apply Array.ext';simp[lG]
def St.Pr(U:St)(d:Option Nat):St.Le (U.wA d) U:=by
 cases d with
 | none=>exact St.Le.refl U
 | some b=>exact St.xO U b
def sB{w:World}(h:bT g U w){del:Option Nat}{e:TypeId}{sz n c:Nat}{vs rest:List Value}(hr:aJ g l vs)(h1:∀u∈vs,u.oneCell')(h2:∀u∈rest,u.oneCell')
 (hl:l.length=n*sz) (hc:vs.length+rest.length=c*sz) (hn:n<=c) (Ar:c<=maxLen) :
 aW.Fits C g U (.qg n l del ⟨n,e,sz⟩) (.ok (.value (.slice (some ⟨w.heap.size,0,none⟩) n c)) (w.alloc (.cells (vs++rest).toArray e))):=by
 obtain⟨τ,g',h3,hle,h4,h5,h6⟩:=(h.weaken (St.Pr U del)).qg e sz n c (vs++rest).toArray vs rest d8 (by
  intro u hu;simp only[gV]at hu;rcases hu with hu|hu
  . exact h1 u hu
  . exact h2 u hu) (by rw[hr.length,hl]) (by simp[hc]) hn Ar
 refine⟨_,_,g',τ,rfl,h3,hle,h6,?_⟩;simp only[NV.at,aB];exact⟨w.heap.size,0,c,vs,rfl,hn,Ar,⟨rfl,h4⟩,h5,hr.mono hle⟩
def tV{w:World}(h:bT g U w){del:Option Nat}{e:TypeId}{sz n c:Nat}{vs rest:List Value}(hr:aJ g l vs)(h1:∀u∈vs,u.oneCell')(h2:∀u∈rest,u.oneCell')
 (hc:vs.length+rest.length=c*sz) (hn:n<=c) (Ar:c<=maxLen) :
 aW.Fits C g U (.rJ n sz e del l) (.ok (.value (.slice (some ⟨w.heap.size,0,none⟩) n c)) (w.alloc (.cells (vs++rest).toArray e))):=by
 obtain⟨b,g',h3,hle,h4,h6⟩:=(h.weaken (St.Pr U del)).mU e (vs++rest).toArray vs rest l d8 hr (by
  intro u hu;simp only[gV]at hu;rcases hu with hu|hu
  . exact h1 u hu
  . exact h2 u hu)
 refine⟨_,_,g',b,rfl,h3,hle,h6,?_⟩;simp only[NV.at,aB];exact⟨_,c,h4,rfl,hn,Ar,by simp[hc],rfl⟩
def oZ{z:Array Value}(hz:∀u∈z.toList,u.oneCell')(n:Nat)(hp:0<z.size):∀u∈(Builtin.zeroCells z n).toList,u.oneCell':=by
 intro u hu;simp only[Builtin.zeroCells,Array.toList_map,List.mem_map]at hu;obtain⟨i,_,rfl⟩:=hu;have aA:i%z.size<z.size:=Nat.mod_lt _ hp;rw[getElem!_pos z _ aA];exact hz _ d8
def Lr(h:bT g U w){t u ty:TypeId}{mu:Bool}{s:AV}{v2:Value}(hs:aB g s v)(hy:aB g y v2) :
 aW.Fits C g U (HZ C.P t u mu s y U) ((do let r <- Builtin.append_ #[t,u] ty #[v,v2];pure (Next.value r):Sem Next).run C.P w):=by
 have nG:∀aR off j,(⟨aR,off,none⟩:Addr).add j=⟨aR,off+j,none⟩:=λaR off j=>by unfold Addr.add;split<;>simp_all
 unfold HZ;split
 . rename_i e sz m l2 L9 Il;intro qI;obtain⟨p8,d,hu,hd⟩:=S6 L9;obtain⟨i,z,ht,hi,hz,AD,rfl,tc,GR,hz1⟩:=kU p8;obtain⟨hm,us,q9,Am,hf⟩:=ZO (C:=C) h hy Il qI;have Mz:us.length=m*i.size:=by rw[q9.length,qI]
   have grow:∀(base:Option Addr)(n c:Nat)(DB:List Value),(∀W:World,W.heap=w.heap->(Builtin.firstCells i.size n (.slice base n c)).run C.P W=.ok DB.toArray W)->DB.length=n*i.size->c<n+m->n+m<=4294967296 ->
    ∃cap rest,n+m<=cap/\cap<=maxLen/\(∀u∈rest,u.oneCell')/\(DB++us).length+rest.length=cap*i.size /\
    (Builtin.append_ #[t,u] ty #[.slice base n c,v2]).run C.P w=.ok (.slice (some ⟨w.drew.heap.size,0,none⟩) (n+m) cap) (w.drew.alloc (.cells ((DB++us)++rest).toArray e)):=λbase n c DB ho JC aA lg=>by
    have gL:=grownCap_ge w (n+m) c e;have hle:=grownCap_le_maxLen w (n+m) c e (by unfold maxLen;omega);refine⟨grownCap w (n+m) c e,(Builtin.zeroCells z.cells (grownCap w (n+m) c e-(n+m))).toList,gL,hle,oZ hz1 _ d6,?_,?_⟩
    . rw[dx,JC,Mz,wH,size_zeroCells,AD,<-Nat.add_mul,<-Nat.add_mul];congr 1;omega
    . rw[IK ht hu hd hi hz GR hm hf ho aA lg];congr 3;simp
   split
   . simp only[aB]at hs;subst hs;split
     . rename_i h0;subst h0;rw[dk,rR ht hu hd hi hm (hf w rfl) d6];exact bQ h (by simp only[aB])
     . rename_i h0;intro lg;obtain⟨cap,rest,h1,h2,h3,h4,h5⟩:=grow none 0 0 [] (λW _=>by simp[Builtin.firstCells]) d8 d6 d6;rw[dk,h5];have fj:=h.grow (nF w);simp only[cK,mQ]at h1 h4 h5 ⊢;split
       . exact tV fj q9 Am h3 h4 h1 h2
       . exact sB fj q9 Am h3 qI h4 h1 h2
   . rename_i n l;have wS:=hs;simp only[aB]at hs;obtain⟨aR,off,c,vs,rfl,JA,Ar,C8,qB,hr⟩:=hs;simp only[yI]at C8;subst C8;split
     . rename_i h0;subst h0;rw[dk,rR ht hu hd hi hm (hf w rfl) d6];have aj0:us=[]:=List.eq_nil_of_length_eq_zero (by simpa using Mz);subst aj0;simp only[storeCells,dO,dL,Nat.add_zero];exact bQ h wS
     . rename_i h0;rintro⟨hl,lg⟩;have gk:vs.length=c*i.size:=by rw[hr.length,hl]
       have ho:∀W:World,W.heap=w.heap->(Builtin.firstCells i.size c (.slice (some ⟨aR,off,none⟩) c c)).run C.P W=.ok vs.toArray W:=λW hW =>
        run_firstCells_some W i.size c ⟨aR,off,none⟩ c c vs gk (λj u hu=>by
         rw[nG];have:W.cell? ⟨aR,off+j,none⟩=w.cell? ⟨aR,off+j,none⟩:=by simp[World.cell?,hW]
         rw[this];exact (h.du _ _ _ (qB j u hu)).1)
       obtain⟨cap,rest,h1,h2,h3,h4,h5⟩:=grow (some ⟨aR,off,none⟩) c c vs ho gk d6 lg;rw[dk,h5];have fj:=h.grow (nF w);refine sB fj (hr.append q9) ?_ h3 (by rw[dx,hl,qI,Nat.add_mul]) h4 h1 h2;intro u hu;simp only[gV]at hu;rcases hu with hu|hu
       . obtain⟨j,hj⟩:=List.getElem?_of_mem hu;exact (h.du _ _ _ (qB j u hj)).2
       . exact Am u hu
   . rename_i n τ l;rintro⟨agP,hl,lg⟩;simp only[aB]at hs;obtain⟨aR,off,c,vs,rfl,JA,Ar,C8,qB,hr⟩:=hs;simp only[yI]at C8;obtain⟨rfl,Au⟩:=C8;obtain⟨ajg,c',cur,k1,k2,k3,k4,k5,k6,k7⟩:=h.tok τ _ agP;rw[Au]at k1;cases k1;have gk:vs.length=n*i.size:=by rw[hr.length,hl]
     by_cases sQ:n+m<=c
     . have sh:n*i.size+us.length<=cur.size:=by
        have e4:cur.size=c*i.size:=k4;rw[Mz,e4,<-Nat.add_mul];exact Nat.mul_le_mul_right _ sQ
       have ji:=run_storeCells_at C.P aR (n*i.size) e us 0 cur w k3 (by simpa using sh) Am;simp only[Nat.add_zero]at ji;rw[dk,rR ht hu hd hi hm (hf w rfl) sQ];simp only[nG,cK,ji,dL];obtain⟨wZ,g',t1,hle,t2,t3,t4⟩:=h.ahp agP Au cur (cur.toList.take (n*i.size)++us++cur.toList.drop (n*i.size+us.length)).toArray us m k3 Mz sQ d8 Am;refine⟨_,_,g',wZ,rfl,t1,hle,t4,?_⟩;simp only[NV.at,aB];refine⟨aR,0,c,vs++us,rfl,sQ,Ar,⟨rfl,t2⟩,λj u hu=>?_,(hr.append q9).mono hle⟩
       by_cases hj:j<vs.length
       . rw[yp hj]at hu;exact (qB.mono hle) j u hu
       . rw[List.getElem?_append_right d6]at hu;have e0:n*i.size+(j-vs.length)=0+j:=by omega
         have t3':g'.du aR (n*i.size+(j-vs.length))=some u:=t3 _ u hu;rw[e0]at t3';exact t3'
     . have ho:∀W:World,W.heap=w.heap->(Builtin.firstCells i.size n (.slice (some ⟨aR,0,none⟩) n c)).run C.P W=.ok vs.toArray W:=λW hW =>
        run_firstCells_some W i.size n ⟨aR,0,none⟩ n c vs gk (λj u hu=>by
         rw[nG];have:W.cell? ⟨aR,0+j,none⟩=w.cell? ⟨aR,0+j,none⟩:=by simp[World.cell?,hW]
         rw[this];exact (h.du _ _ _ (qB j u hu)).1)
       obtain⟨cap,rest,h1,h2,h3,h4,h5⟩:=grow (some ⟨aR,0,none⟩) n c vs ho gk d6 lg;rw[dk,h5];have fj:=h.grow (nF w);refine sB fj (hr.append q9) ?_ h3 (by rw[dx,hl,qI,Nat.add_mul]) h4 h1 h2;intro u hu;simp only[gV]at hu;rcases hu with hu|hu
       . obtain⟨j,hj⟩:=List.getElem?_of_mem hu;exact (h.du _ _ _ (qB j u hj)).2
       . exact Am u hu
   . rename_i b off n lx e';split
     . rename_i l hb;rintro⟨rfl,rfl,rfl,hnl,lg⟩;simp only[aB]at hs;obtain⟨x,c,hx,rfl,JA,Ar,aiu,hxe⟩:=hs;obtain⟨x',cur,vs,aiL,k1,k2,k3,k4,k5,k6,k7,k8⟩:=h.box b l hb;rw[hx]at k1;cases k1;have wh:cur.size=c*i.size:=by rw[k4];omega
       have gk:=k6.length
       by_cases sQ:n+m<=c
       . have sh:n*i.size+us.length<=cur.size:=by
          rw[Mz,wh,<-Nat.add_mul];exact Nat.mul_le_mul_right _ sQ
         have ji:=run_storeCells_at C.P x.aR (n*i.size) x.e us 0 cur w k3 (by simpa using sh) Am;simp only[Nat.add_zero]at ji;rw[dk,rR ht hu hd hi hm (hf w rfl) sQ];simp only[nG,cK,ji,dL];have e1:cur.toList.take (n*i.size)=vs.take (n*i.size):=by rw[k5,List.take_append_of_le_length d6]
         have yd:=h.setRow hb hx (l':=l.take (n*i.size)++l2) (cur.toList.take (n*i.size)++us++cur.toList.drop (n*i.size+us.length)).toArray (vs.take (n*i.size)++us) (cur.toList.drop (n*i.size+us.length)) (by
          simp only[List.size_toArray,dx,List.length_take,List.length_drop,wH];omega) (by simp[e1]) ((k6.take _).append q9) (by
          intro u hu;simp only[gV]at hu;rcases hu with (hu|hu)|hu
          . exact k7 u (List.mem_of_mem_take hu)
          . exact Am u hu
          . exact k7 u (List.mem_of_mem_drop hu))
         obtain⟨b',g',f1,hle,f2,f3⟩:=yd.rename (b:=b) (x:=.box (l.take (n*i.size)++l2)) (by simp[St.c7,St.set]) hx;have ed:(U.c7 b (l.take (n*i.size)++l2)).del b=U.del b:=by
          simp only[St.c7,St.set,St.del,St.mk.injEq,and_true];funext y;split<;>rfl
         rw[ed]at f1 f3;refine⟨_,_,g',b',rfl,f1,hle,f3,?_⟩;simp only[NV.at,aB];exact⟨x,c,f2,rfl,sQ,Ar,aiu,hxe⟩
       . have hvn:(vs.take (n*i.size)).length=n*i.size:=by simp;omega
         have ho:∀W:World,W.heap=w.heap->(Builtin.firstCells i.size n (.slice (some ⟨x.aR,0,none⟩) n c)).run C.P W=.ok (vs.take (n*i.size)).toArray W:=λW hW =>
          run_firstCells_some W i.size n ⟨x.aR,0,none⟩ n c _ hvn (λj u hu=>by
           rw[nG];have:W.cell? ⟨x.aR,0+j,none⟩=w.cell? ⟨x.aR,0+j,none⟩:=by simp[World.cell?,hW]
           rw[this,cell_of_row _ _ _ cur x.e (0,0) k3,cK,<-nO,k5];rw[List.getElem?_take]at hu;split at hu
           . rw[yp d6];exact hu
           . cases hu)
         obtain⟨cap,rest,h1,h2,h3,h4,h5⟩:=grow (some ⟨x.aR,0,none⟩) n c _ ho hvn d6 lg;rw[dk,h5];have fj:=h.grow (nF w);refine tV fj ((k6.take _).append q9) ?_ h3 h4 h1 h2;intro u hu;simp only[gV]at hu;rcases hu with hu|hu
         . refine k7 u ?_;rw[k5];exact List.mem_append_left _ (List.mem_of_mem_take hu)
         . exact Am u hu
     . trivial
   . trivial
 . trivial
end
section
variable {C:dQ}{g:Gh}{U:St}{w:World}
def fB(CW:Int):Option AV->Option Int
 | none=>some CW
 | some (.int _ n)=>some n
 | _=>none
def xg:nj->Option AV->nj
 | .full,none=>.full
 | _,_=>.lC
def NJ(P:Program)(t:TypeId)(x:AV)(lo hi:Option AV):aW :=
 match x with
 | .str s=>match qe P t,fB 0 lo,fB s.length hi with
   | true,some l,some h=>.cond (0<=l/\l<=h/\h<=s.length) (.val (.str ((s.take h.toNat).drop l.toNat)))
   | _,_,_=>.bad
 | .vec n cap l=>match ig P t,fB 0 lo,fB n hi with
   | some (_,sz),some a,some b=>.cond (0<=a/\a<=b/\b<=n) (.val (.vec (b.toNat-a.toNat) (xg cap hi) ((l.take (b.toNat*sz)).drop (a.toNat*sz))))
   | _,_,_=>.bad
 | .af=>match ig P t,fB 0 lo,fB 0 hi with
   | some (_,_),some a,some b=>.cond (a=0/\b=0) (.val .af)
   | _,_,_=>.bad
 | .ms b off n lx e=>match ig P t,fB 0 lo,fB n hi with
   | some (_,sz),some a,some h=>.cond (0<=a/\a<=h/\h<=n/\(a<n\/a=0)/\lx=sz) (.val (.ms b (off+a.toNat*sz) (h.toNat-a.toNat) lx e))
   | _,_,_=>.bad
 | _=>.bad
def run_sliceBound{x:Value}{k:IntKind}{n:Int}{y:Nat}{code:BoundsCode}(hx:x=.int k n)(h0:0<=n)(h1:n<=y):(Instr.sliceBound x y code).run P w=.ok n.toNat w:=by
 subst hx;simp[Instr.sliceBound,asIntOf,h0,h1]
def Gw{CW:Int}{o:Option AV}{v:Option Value}{n:Int}(hr:match o,v with|none,none=>True|some x,some u=>aB g x u|_,_=>False)(hb:fB CW o=some n) :
 (o=none/\v=none/\n=CW)\/∃k u,v=some u/\u=.int k n/\∃x,o=some x:=by
 cases o with
 | none =>
   cases v with
   | none=>simp[fB]at hb;exact .inl ⟨rfl,rfl,hb.symm⟩
   | some u=>exact hr.elim
 | some x =>
   cases v with
   | none=>exact hr.elim
   | some u =>
     cases x<;>simp only[fB,reduceCtorEq,kP]at hb
     subst hb;simp only[aB]at hr;exact .inr ⟨_,u,rfl,hr,_,rfl⟩
def qM{P:Program}{isS:Bool}{len cap:Nat}{lo hi:Option AV}{vl vh:Option Value}{a b:Int}
 (hl:match lo,vl with|none,none=>True|some x,some u=>aB g x u|_,_=>False) (hh:match hi,vh with|none,none=>True|some x,some u=>aB g x u|_,_=>False)
 (ha:fB 0 lo=some a) (hb:fB len hi=some b) (h0:0<=a) (h1:a<=b) (h2:b<=len) (h3:len<=cap) :
 (Instr.sliceBounds isS len cap vl vh none).run P w=.ok (a.toNat,b.toNat,cap) w:=by
 rcases Gw hl ha with ⟨_,rfl,rfl⟩|⟨k,u,rfl,hu,_⟩<;>rcases Gw hh hb with ⟨_,rfl,rfl⟩|⟨k',u',rfl,r9,_⟩
 . simp[Instr.sliceBounds]
 . have e1:∀c,(Instr.sliceBound u' cap c).run P w=.ok b.toNat w:=λc=>run_sliceBound r9 d6 d6;simp[Instr.sliceBounds,e1]
 . have e1:∀c,(Instr.sliceBound u len c).run P w=.ok a.toNat w:=λc=>run_sliceBound hu h0 d6;simp[Instr.sliceBounds,e1]
 . have e1:∀c,(Instr.sliceBound u' cap c).run P w=.ok b.toNat w:=λc=>run_sliceBound r9 d6 d6;have e2:∀c,(Instr.sliceBound u b.toNat c).run P w=.ok a.toNat w:=λc=>run_sliceBound hu h0 d6;simp[Instr.sliceBounds,e1,e2]
def O5(h:bT g U w){t:TypeId}{lo hi:Option AV}{vl vh:Option Value}(hx:aB g x v)
 (hl:match lo,vl with|none,none=>True|some x,some u=>aB g x u|_,_=>False) (hh:match hi,vh with|none,none=>True|some x,some u=>aB g x u|_,_=>False) :
 aW.Fits C g U (NJ C.P t x lo hi) ((do let r <- Instr.sliceAt t v vl vh none;pure (Next.value r):Sem Next).run C.P w):=by
 have nG:∀aR off j,(⟨aR,off,none⟩:Addr).add j=⟨aR,off+j,none⟩:=λaR off j=>by unfold Addr.add;split<;>simp_all
 unfold NJ;split
 . rename_i s;split
   . rename_i a b ht ha hb;rintro⟨h0,h1,h2⟩;simp only[aB]at hx;subst hx;have gj:(ByteArray.mk s.toArray).size=s.length:=by simp[ByteArray.size]
     have hr:=qM (w:=w) (P:=C.P) (isS:=false) hl hh ha hb h0 h1 h2 (da _);simp only[Instr.sliceAt,Instr.slice,run_underlying (sI ht),dk,dL,gj,hr,dO,Option.isSome_none,bW,if_false];refine bQ h ?_;simp only[aB];congr 1;apply ByteArray.ext;simp only[ByteArray.data_extract];apply Array.ext';simp[List.extract_eq_take_drop,List.drop_take]
   . trivial
 . rename_i n cap l;split
   . rename_i e sz a b ht ha hb;rintro⟨h0,h1,h2⟩;simp only[aB]at hx;obtain⟨aR,off,c,vs,rfl,JA,Ar,C8,qB,hr⟩:=hx;obtain⟨i,z,hu,mE,hz,AD,rfl,tc,_⟩:=kU ht;have jY:=qM (w:=w) (P:=C.P) (isS:=true) hl hh ha hb h0 h1 h2 JA;simp only[Instr.sliceAt,Instr.slice,run_underlying hu,dk,dL,jY,dO,gy mE];refine bQ h ?_;have aic:yI g (xg cap hi) aR (if c=a.toNat then off else off+a.toNat*i.size) (b.toNat-a.toNat) (c-a.toNat):=by
      cases cap with
      | full =>
        cases hi with
        | none =>
          simp only[xg,yI]at C8 ⊢;simp only[fB,kP]at hb;omega
        | some y=>trivial
      | own τ=>trivial
      | lC=>trivial
     simp only[aB];refine⟨aR,if c=a.toNat then off else off+a.toNat*i.size,c-a.toNat,(vs.take (b.toNat*i.size)).drop (a.toNat*i.size),?_,d6,d6,aic,?_,(hr.take _).drop _⟩
     . simp only[Option.map_some,nG];split<;>rfl
     . split
       . rename_i e1;have:(vs.take (b.toNat*i.size)).drop (a.toNat*i.size)=[]:=by
          rw[List.drop_eq_nil_iff];have:b.toNat<=a.toNat:=by omega
          have:=Nat.mul_le_mul_right i.size this;simp;omega
         rw[this];intro j u hu;simp at hu
       . intro j u hu;rw[List.getElem?_drop,List.getElem?_take]at hu;split at hu
         . have:=qB _ u hu;rw[Nat.add_assoc];exact this
         . cases hu
   . trivial
 . split
   . rename_i e sz a b ht ha hb;rintro⟨rfl,rfl⟩;simp only[aB]at hx;subst hx;obtain⟨i,z,hu,mE,hz,AD,rfl,tc,_⟩:=kU ht;have jY:=qM (w:=w) (P:=C.P) (isS:=true) (len:=0) (cap:=0) hl hh ha (by simpa using hb) d6 d6 d8 (da _);simp only[Instr.sliceAt,Instr.slice,run_underlying hu,dk,dL,jY,dO,gy mE];refine bQ h (by simp[aB])
   . trivial
 . rename_i b off n lx e;split
   . rename_i e' sz a hh' ht ha hb;rintro⟨h0,h1,h2,h3,rfl⟩;simp only[aB]at hx;obtain⟨y,c,hy,rfl,JA,Ar,gj,hxe⟩:=hx;obtain⟨i,z,hu,mE,hz,AD,rfl,tc,_⟩:=kU ht;have jY:=qM (w:=w) (P:=C.P) (isS:=true) hl hh ha hb h0 h1 h2 JA;simp only[Instr.sliceAt,Instr.slice,run_underlying hu,dk,dL,jY,dO,gy mE];refine bQ h ?_;simp only[aB];have e2:off+a.toNat*i.size+(c-a.toNat)*i.size=y.size:=by
      have:a.toNat*i.size+(c-a.toNat)*i.size=c*i.size:=by rw[<-Nat.add_mul];congr 1;omega
      omega
     refine⟨y,c-a.toNat,hy,?_,d6,d6,e2,hxe⟩;simp only[Option.map_some,nG];split
     . rename_i e1;have h0a:a.toNat=0:=by omega
       simp[h0a]
     . rfl
   . trivial
 . trivial
def yx(op:UnOp)(x:AV):aW :=
 match op,x with
 | .not,.bool b=>.val (.bool (!b))
 | .neg,.int k n=>kX k (0-n)
 | _,_=>.bad
def Og(h:bT g U w)(k:IntKind)(n:Int):aW.Fits C g U (kX k n) (.ok (.value (.int k (k.wrap n))) w):=by
 unfold kX;split
 . intro hi;rw[Cg hi];exact bQ h (by simp only[aB])
 . exact bQ h (by simp only[aB])
def acU(h:bT g U w){op:UnOp}(hx:aB g x v):aW.Fits C g U (yx op x) ((do let r <- Op.unary op v;pure (Next.value r):Sem Next).run C.P w):=by
 unfold yx;split
 . simp only[aB]at hx;subst hx;exact bQ h (by simp only[aB])
 . simp only[aB]at hx;subst hx;simp only[Op.unary,Op.intArith,dk,dO,dL];exact Og h _ _
 . trivial
def RJ(P:Program)(t:TypeId):Option IntKind:=match P.underlying t with|some (.int k)=>some k|_=>none
def BA(P:Program)(t:TypeId):Bool:=match P.underlying t with
 | some (.slice e)=>match P.underlying e with
   | some (.int .u8)=>true
   | _=>false
 | _=>false
def KM(h:BA P t):∃e,P.underlying t=some (.slice e)/\P.underlying e=some (.int .u8):=by
 unfold BA at h;split at h
 . rename_i e he;split at h
   . rename_i hu;exact⟨e,he,hu⟩
   . cases h
 . cases h
def KU(P:Program)(src dst:TypeId)(x:AV):aW :=
 match RJ P dst,(P.underlying src).isSome,x with
 | some .i64,true,.int _ n=>.cond (xG n) (.val (.int .i64 n))
 | some k,true,.int _ n=>.val (.int k (k.wrap n))
 | none,true,.str s=>if qe P dst=true/\qe P src=true then .val (.str s) else
   if BA P dst=true/\qe P src=true then .cond (s.length<=4294967296) (.val (.vec s.length .lC (s.map λb=>.int .u8 b.toNat))) else .bad
 | _,_,_=>.bad
def KO(h:bT g U w){src dst:TypeId}{s:List UInt8}(hd:C.P.underlying dst=some (.slice e))(he:C.P.underlying e=some (.int .u8))(hs:C.P.underlying src=some .string)(hlen:s.length<=4294967296) :
 aW.Fits C g U (.val (.vec s.length .lC (s.map λb=>.int .u8 b.toNat))) ((do let r <- convert src dst (.string ⟨s.toArray⟩);pure (Next.value r):Sem Next).run C.P w):=by
 have jY:=Lib.run_convert_string_bytes (P:=C.P) w src dst e ⟨s.toArray⟩ hs hd he;have gj:(ByteArray.mk s.toArray).size=s.length:=by simp[ByteArray.size]
 rw[gj]at jY;have gL:=grownCap_ge w s.length 0 e;have hle:=grownCap_le_maxLen w s.length 0 e (by unfold maxLen;omega);let vs:List Value:=s.map λb=>.int .u8 b.toNat;let g':Gh:={ g with du:=λaR o=>if aR=w.heap.size then vs[o]? else g.du aR o }
 have tb:∀o,g'.du w.heap.size o=vs[o]?:=λo=>by show (if w.heap.size=w.heap.size then _ else _)=_;rw[if_pos rfl]
 have hold:∀aR o,aR≠w.heap.size->g'.du aR o=g.du aR o:=λaR o hx=>by show (if aR=w.heap.size then _ else _)=_;rw[if_neg hx]
 have RA:Gh.Le g g':=⟨rfl,rfl,λ_ _ h=>h,λaR o u hu=>by
  rw[hold _ _ (λe=>by subst e;rw[h.Ep (da _)]at hu;cases hu)];exact hu,λ_ _ h=>h,λ_ h=>h,λq o hq=>hold _ _ (by have:=h.le;omega),λ_ _=>rfl⟩
 have fj:bT g' U (Lib.bytesWorld w e ⟨s.toArray⟩):=by
  refine h.change w.heap.size h.le RA rfl rfl ⟨rfl,rfl,rfl,by rw[Lib.bytesWorld_size];omega⟩ (λk _ hk=>Lib.bytesWorld_at_old w e _ k hk) hold (λ_ _=>rfl) (λo u hu=>?_) (λes c hr=>?_) (λb x p k1 k2=>Nat.ne_of_lt (h.BQ k1 k2)) (h.IJ (da _))
  . rw[tb]at hu;simp only[vs,po,so]at hu;obtain⟨b,hb,rfl⟩:=hu;have aA:=(dw.1 hb).1;refine⟨?_,rfl⟩;rw[Lib.bytesWorld_cell w e ⟨s.toArray⟩ o (by rw[gj];exact aA)];simp[List.getD,hb]
  . have:g.cY w.heap.size=some (es,c):=hr;rw[h.Bv (da _)]at this;cases this
 simp only[dk,jY,dL,dO];refine⟨_,_,g',.inl rfl,RA,fj,?_⟩;simp only[aB];refine⟨w.heap.size,0,_,vs,rfl,gL,hle,trivial,λi u hu=>by rw[cK,tb];exact hu,?_⟩;refine aJ.Hm (by simp[vs]) λi x v hx hv=>?_;simp only[vs,po,so]at hx hv;obtain⟨b,hb,rfl⟩:=hx;obtain⟨b',fi,rfl⟩:=hv;rw[hb]at fi;cases fi;simp only[aB]
def Ra(h:bT g U w){src dst:TypeId}(hx:aB g x v):aW.Fits C g U (KU C.P src dst x) ((do let r <- convert src dst v;pure (Next.value r):Sem Next).run C.P w):=by
 unfold KU;split
 . rename_i k n hk hs;simp only[aB]at hx;subst hx;have hu:C.P.underlying dst=some (.int .i64):=by unfold RJ at hk;split at hk<;>simp_all
   obtain⟨d,hd⟩:=Option.isSome_iff_exists.1 hs;intro hi;simp only[convert,run_underlying hu,run_underlying hd,dk,dO,dL,Conv.intToInt];rw[Cg hi];exact bQ h (by simp only[aB])
 . rename_i k _ n _ hk hs;simp only[aB]at hx;subst hx;have hu:C.P.underlying dst=some (.int k):=by unfold RJ at hk;split at hk<;>simp_all
   obtain⟨d,hd⟩:=Option.isSome_iff_exists.1 hs;simp only[convert,run_underlying hu,run_underlying hd,dk,dO,dL,Conv.intToInt];exact bQ h (by simp only[aB])
 . split
   . rename_i hc;simp only[aB]at hx;subst hx;simp only[convert,run_underlying (sI hc.1),run_underlying (sI hc.2),dk,dO,dL];exact bQ h (by simp only[aB])
   . split
     . rename_i hc;intro hlen;simp only[aB]at hx;subst hx;obtain⟨e,hd,he⟩:=KM hc.1;exact KO h hd he (sI hc.2) hlen
     . trivial
 . trivial
def Dx(P:Program)(t:TypeId):Bool:=match P.underlying t with|some (.interface _)=>false|some _=>true|none=>false
def BK(P:Program)(t:TypeId)(x:AV):aW:=if Dx P t=true then .val (.iface t x) else .bad
def Hh(h:bT g U w)(hx:aB g x v):aW.Fits C g U (BK C.P t x) ((do let r <- Instr.makeInterface t v;pure (Next.value r):Sem Next).run C.P w):=by
 unfold BK;split
 . rename_i hc;unfold Dx at hc;split at hc
   . cases hc
   . rename_i d hn hd;simp only[Instr.makeInterface,run_underlying hd,dk,dL];cases d
     case interface=>exact (hn _ rfl).elim
     all_goals
      simp only[dO,dL];exact bQ h (by simp only[aB];exact⟨v,rfl,hx⟩)
   . cases hc
 . trivial
def jt(x:AV)(i:Nat):aW :=
 match x with
 | .az l=>kn (l.drop i)
 | _=>.bad
def KJ(h:bT g U w)(hx:aB g x v)(i:Nat):aW.Fits C g U (jt x i) ((do let r <- Instr.extract v i;pure (Next.value r):Sem Next).run C.P w):=by
 unfold jt;split
 . rename_i l;simp only[aB]at hx;obtain⟨vs,rfl,hr⟩:=hx;cases hd:l.drop i with
   | nil=>trivial
   | cons y ys =>
     have hy:l[i]?=some y:=by
      have:=congrArg (λl=>l[0]?) hd;simpa using this
     obtain⟨u,hu,hyu⟩:=hr.get hy;have e:vs.toArray[i]?=some u:=by simpa using hu
     simp only[Instr.extract,e,dk,dO,dL];exact bQ h hyu
 . trivial
def yn(x:AV):aW :=
 match x with
 | .iface t v=>.panic (.iface t v)
 | _=>.bad
def OO(h:bT g U w)(hx:aB g x v):aW.Fits C g U (yn x) ((do let r <- Instr.panic v;pure (Next.value r):Sem Next).run C.P w):=by
 unfold yn;split
 . have lJ:=hx;simp only[aB]at hx;obtain⟨u,rfl,hu⟩:=hx;simp only[Instr.panic,dk,run_goPanic,Result.andThen_halt];exact⟨_,w,rfl,h,lJ⟩
 . trivial
def Iw(h:bT g U w){ev:Operand->Value}{o:Oper}{X:Operand}(ho:o.op=.nilCheck X)(hx:aB g x (ev X)):aW.Fits C g U (jf x) ((execOp ev o).run C.P w):=by
 unfold jf;split
 . have lJ:=hx;simp only[aB]at hx;obtain⟨y,_,hv⟩:=hx;simp only[execOp,ho,hv,dO];rw[hv]at lJ;exact bQ h lJ
 . have lJ:=hx;simp only[aB]at hx;obtain⟨_,_,_,hv,_⟩:=hx;simp only[execOp,ho,hv,dO];rw[hv]at lJ;exact bQ h lJ
 . have lJ:=hx;simp only[aB]at hx;obtain⟨_,_,hv,_⟩:=hx;simp only[execOp,ho,hv,dO];rw[hv]at lJ;exact bQ h lJ
 . trivial
def RV(P:Program)(t:TypeId):Option Bool :=
 match P.underlying t with
 | some .string=>some true
 | some (.slice _)=>some false
 | _=>none
def MQ(P:Program)(t:TypeId)(x:AV)(U:St):aW :=
 match RV P t,x with
 | some true,.str s=>.val (.int .i64 s.length)
 | some false,.vec n _ _=>.val (.int .i64 n)
 | some false,.ms _ _ n _ _=>.val (.int .i64 n)
 | some false,.af=>.val (.int .i64 0)
 | _,_=>.bad
def yY{b:Bool}(h:RV P t=some b):(b/\P.underlying t=some .string)\/(b=false/\∃e,P.underlying t=some (.slice e)):=by
 unfold RV at h;split at h
 . rename_i e;simp at h;exact .inl ⟨h,e⟩
 . rename_i e' e;simp at h;exact .inr ⟨h,_,e⟩
 . cases h
def UL(h:bT g U w)(hx:aB g x v):aW.Fits C g U (MQ C.P t x U) ((do let r <- Builtin.len_ #[t] ty #[v];pure (Next.value r):Sem Next).run C.P w):=by
 unfold MQ;split
 . rename_i s My;have hu:C.P.underlying t=some .string:=by rcases yY My with ⟨_,h⟩|⟨h,_⟩<;>first|exact h|cases h
   simp only[aB]at hx;subst hx;have gj:(ByteArray.mk s.toArray).size=s.length:=by simp[ByteArray.size]
   simp[Builtin.len_,run_underlying hu,goInt,gj];exact bQ h (by simp only[aB])
 . rename_i My;obtain⟨e0,hu⟩:∃e,C.P.underlying t=some (.slice e):=by rcases yY My with ⟨h,_⟩|⟨_,h⟩<;>first|exact h|cases h
   simp only[aB]at hx;obtain⟨_,_,_,_,rfl,_⟩:=hx;simp[Builtin.len_,run_underlying hu,goInt];exact bQ h (by simp only[aB])
 . rename_i My;obtain⟨e0,hu⟩:∃e,C.P.underlying t=some (.slice e):=by rcases yY My with ⟨h,_⟩|⟨_,h⟩<;>first|exact h|cases h
   simp only[aB]at hx;obtain⟨_,_,_,rfl,_⟩:=hx;simp[Builtin.len_,run_underlying hu,goInt];exact bQ h (by simp only[aB])
 . rename_i My;obtain⟨e0,hu⟩:∃e,C.P.underlying t=some (.slice e):=by rcases yY My with ⟨h,_⟩|⟨_,h⟩<;>first|exact h|cases h
   simp only[aB]at hx;subst hx;simp[Builtin.len_,run_underlying hu,goInt];exact bQ h (by simp only[aB])
 . trivial
def zM(x y:AV):aW :=
 match x,y with
 | .int k a,.int k' b=>if k=k' then .val (.int k (if b<a then b else a)) else .bad
 | _,_=>.bad
def FR(x y:AV):aW :=
 match x,y with
 | .int k a,.int k' b=>if k=k' then .val (.int k (if b > a then b else a)) else .bad
 | _,_=>.bad
def UR(h:bT g U w){ts:Array TypeId}(hx:aB g x v)(hy:aB g y u):aW.Fits C g U (FR x y) ((do let r <- Builtin.max_ ts ty #[v,u];pure (Next.value r):Sem Next).run C.P w):=by
 unfold FR;split
 . split
   . rename_i e;subst e;simp only[aB]at hx hy;subst hx hy;simp[Builtin.max_,Builtin.max2];exact bQ h (by simp only[aB])
   . trivial
 . trivial
def US(h:bT g U w){ts:Array TypeId}(hx:aB g x v)(hy:aB g y u):aW.Fits C g U (zM x y) ((do let r <- Builtin.min_ ts ty #[v,u];pure (Next.value r):Sem Next).run C.P w):=by
 unfold zM;split
 . split
   . rename_i e;subst e;simp only[aB]at hx hy;subst hx hy;simp[Builtin.min_,Builtin.min2];exact bQ h (by simp only[aB])
   . trivial
 . trivial
end
section
variable {C:dQ}{g:Gh}{U:St}{w:World}
def ja(place:Nat->Option (Nat×Nat)):List (Nat×AV)->List AV->(List AV->aW)->aW
 | [],z,k=>k z
 | (i,x)::rest,z,k=>match place i with
   | some (off,size)=>.cond (x.dC/\(al x).length=size/\off+size<=z.length) (ja place rest (ax z off (al x)) k)
   | none=>.bad
def C1(off:Nat):∀(l:List Value)(j:Nat)(cs:Array Value),off+j+l.length<=cs.size ->
 ((l.zipIdx j).foldl (λ(cs:Array Value)(p:Value×Nat)=>cs.setIfInBounds (off+p.2) p.1) cs).toList=cs.toList.take (off+j)++l++cs.toList.drop (off+j+l.length)
 | [],j,cs,_=>by simp
 | v::l,j,cs,hle=>by
   simp only[List.zipIdx_cons,List.foldl_cons];simp only[jm]at hle;rw[C1 off l (j+1) _ (by simp;omega)];have hs:=list_seg_step cs.toList (off+j) v l (by simpa using hle);rw[Array.toList_setIfInBounds];rw[show off+(j+1)=off+j+1 from rfl];exact hs
def yO{place:Nat->Option (Nat×Nat)}{k:List AV->aW}{kk:Array Value->Sem Value}{S:String}
 (hk:∀(z:List AV)(cs:Array Value),aJ g z cs.toList->(∀u∈cs.toList,u.oneCell')->aW.Fits C g U (k z) ((do let r <- kk cs;pure (Next.value r):Sem Next).run C.P w)) :
 ∀(parts:List (Nat×AV))(vs:List (Nat×Value))(z:List AV)(cs:Array Value),vs.length=parts.length->(∀(i:Nat)(p:Nat×AV)(q:Nat×Value),parts[i]?=some p->vs[i]?=some q->p.1=q.1/\aB g p.2 q.2) ->
  aJ g z cs.toList->(∀u∈cs.toList,u.oneCell') ->
  aW.Fits C g U (ja place parts z k) ((do let r <- (match Instr.fill place cs vs with|some GA=>kk GA|none=>stuck S);pure (Next.value r):Sem Next).run C.P w)
 | [],[],z,cs,_,_,hz,h1=>by
   simp only[ja,Instr.fill];exact hk z cs hz h1
 | [],_::_,_,_,h,_,_,_=>by simp at h
 | _::_,[],_,_,h,_,_,_=>by simp at h
 | (i,x)::parts,(j,v)::vs,z,cs,hl,hp,hz,h1=>by
   obtain⟨rfl,hx⟩:=hp 0 _ _ rfl rfl;dsimp only at hx ⊢;simp only[ja];cases oy:place i with
   | none=>trivial
   | some os =>
     obtain⟨off,size⟩:=os;rintro⟨a1,a2,a3⟩;obtain⟨yR,EX⟩:=CT hx a1;have hlen:=yR.length;have MB:=hz.length;have De:v.cells.size=size:=by rw[<-wH,hlen,a2]
     have hcz:off+v.cells.size<=cs.size:=by rw[De,<-wH,MB];exact a3
     have e:(v.cells.zipIdx.foldl (λ(cs:Array Value)(p:Value×Nat)=>cs.setIfInBounds (off+p.2) p.1) cs).toList=cs.toList.take off++v.cells.toList++cs.toList.drop (off+v.cells.toList.length):=by
      rw[<-Array.foldl_toList,Array.toList_zipIdx];have:=C1 off v.cells.toList 0 cs (by simpa using hcz);simpa using this
     have aid:(v.cells.size≠size||off+v.cells.size > cs.size)=false:=by simp[De];omega
     simp only[Instr.fill,oy];rw[if_neg (by rw[aid];simp)];refine yO hk parts vs _ _ (by simpa using hl) (λi p q h2 h3=>hp (i+1) p q (by simpa using h2) (by simpa using h3)) ?_ ?_
     . show aJ g (ax z off (al x)) (v.cells.zipIdx.foldl (λ(cs:Array Value)(p:Value×Nat)=>cs.setIfInBounds (off+p.2) p.1) cs).toList;rw[e];unfold ax;rw[hlen];exact ((hz.take _).append yR).append (hz.drop _)
     . show ∀u∈(v.cells.zipIdx.foldl (λ(cs:Array Value)(p:Value×Nat)=>cs.setIfInBounds (off+p.2) p.1) cs).toList,u.oneCell'=true;rw[e];intro u hu;simp only[gV]at hu;rcases hu with (hu|hu)|hu
       . exact h1 u (List.mem_of_mem_take hu)
       . exact EX u hu
       . exact h1 u (List.mem_of_mem_drop hu)
def pa(C:dQ)(ρ:Env)(parts:Array (Nat×Operand)):List (Nat×AV):=parts.toList.map λp=>(p.1,ρ.ev C p.2)
def Lw(P:Program)(t:TypeId)(parts:List (Nat×AV)):aW :=
 match EG P t,s8 P t with
 | some pl,some z=>ja (λi=>pl[i]?) parts z λz=>.val (.agg z)
 | none,some z=>match zz P t with
   | some (_,_,sz)=>ja (λi=>some (i*sz,sz)) parts z λz=>.val (.agg z)
   | none=>.bad
 | _,_=>.bad
def NS{pl:List (Nat×Nat)}(h:EG P t=some pl):∃fs:Array Field,P.underlying t=some (.struct fs)/\pl=fs.toList.map (λf=>(f.offset,P.cellsOf f.type)) /\
 (fs.mapM (λf=>do pure (f.offset,<-sizeOf f.type):Field->Sem (Nat×Nat))).run P w=.ok pl.toArray w:=by
 unfold EG at h;split at h
 . rename_i fs hu;split at h
   . rename_i cg;simp only[kP]at h;refine⟨fs,hu,h.symm,?_⟩;rw[Array.mapM_eq_mapM_toList];rw[Array.all_eq_true_iff_forall_mem]at cg;have key:∀l:List Field,(∀f∈l,(P.info? f.type).isSome)->(l.mapM (λf=>do pure (f.offset,<-sizeOf f.type):Field->Sem (Nat×Nat))).run P w=.ok (l.map λf=>(f.offset,P.cellsOf f.type)) w:=by
      intro l
      induction l with
      | nil=>intro _;simp
      | cons f l ih =>
        intro hf;obtain⟨i,hi⟩:=Option.isSome_iff_exists.1 (hf f d8);have ih':=ih λx hx=>hf x (by simp[hx]);have hc:P.cellsOf f.type=i.size:=by simp[Program.cellsOf,hi]
        simp only[List.mapM_cons,dk,gy hi,dL,dO,ih',fh,hc]
     have:=key fs.toList (λf hf=>cg f (by simpa using hf));simp only[Sem.run_map,this,dL,h]
   . cases h
 . cases h
def Ol(h:bT g U w){t:TypeId}{parts:List (Nat×AV)}{vs:Array (Nat×Value)}(hl:vs.size=parts.length)(hp:∀(i:Nat)(p:Nat×AV)(q:Nat×Value),parts[i]?=some p->vs[i]?=some q->p.1=q.1/\aB g p.2 q.2) :
 aW.Fits C g U (Lw C.P t parts) ((do let r <- Instr.build t vs;pure (Next.value r):Sem Next).run C.P w):=by
 unfold Lw;split
 . rename_i pl z hs hz;obtain⟨fs,hu,oy,jY⟩:=NS (w:=w) hs;obtain⟨i,zv,hi,ye,hm⟩:=pY hz;obtain⟨h1,h2⟩:=gx (g:=g) hm
   have key:=yO (C:=C) (g:=g) (U:=U) (w:=w) (place:=λi=>pl.toArray[i]?) (k:=λz=>.val (.agg z)) (kk:=λcs=>pure (.agg cs)) (S := "build: no such field, or a part of the wrong size") (λz cs hz h1=>by
    simp only[dk,dO,dL];exact bQ h (by simp only[aB];exact⟨cs.toList,d8,h1,hz⟩)) parts vs.toList z zv.cells (by simpa using hl) (λi p q h1 h2=>hp i p q h1 (by simpa using h2)) h1 h2
   have e:(λi:Nat=>pl.toArray[i]?)=λi=>pl[i]?:=by funext i;simp
   rw[<-e];simp only[Instr.build,dk,jL hi ye,dL,run_underlying hu,jY];cases hf:Instr.fill (λi:Nat=>pl.toArray[i]?) zv.cells vs.toList with
   | none=>simp only[hf,dk,run_stuck,Result.andThen_halt]at key ⊢;exact key
   | some GA=>simp only[hf,dk,dO,dL]at key ⊢;exact key
 . rename_i z hs hz;split
   . rename_i n e sz ha;obtain⟨ie,hu,hie,gj⟩:=yK ha;obtain⟨i,zv,hi,ye,hm⟩:=pY hz;obtain⟨h1,h2⟩:=gx (g:=g) hm
     have key:=yO (C:=C) (g:=g) (U:=U) (w:=w) (place:=λi=>some (i*sz,sz)) (k:=λz=>.val (.agg z)) (kk:=λcs=>pure (.agg cs)) (S := "build: a part of the wrong size") (λz cs hz h1=>by
      simp only[dk,dO,dL];exact bQ h (by simp only[aB];exact⟨cs.toList,d8,h1,hz⟩)) parts vs.toList z zv.cells (by simpa using hl) (λi p q h1 h2=>hp i p q h1 (by simpa using h2)) h1 h2
     simp only[Instr.build,dk,jL hi ye,dL,run_underlying hu,gy hie,gj];cases hf:Instr.fill (λi:Nat=>some (i*sz,sz)) zv.cells vs.toList with
     | none=>simp only[hf,dk,run_stuck,Result.andThen_halt]at key ⊢;exact key
     | some GA=>simp only[hf,dk,dO,dL]at key ⊢;exact key
   . trivial
 . trivial
end
variable {k:AV}{fk:FK}{j:Nat}
section
variable {C:dQ}{g:Gh}{U:St}{w:World}
def bZ:Nat->List AV->List AV
 | 0,_=>[]
 | n+1,z=>z++bZ n z
def oq(z:List AV):∀n,(bZ n z).length=n*z.length
 | 0=>by simp[bZ]
 | n+1=>by simp[bZ,oq z n,Nat.add_mul];omega
def xx{z:List AV}{zv:Array Value}(hz:aJ g z zv.toList):∀n,aJ g (bZ n z) ((Array.range (n*zv.size)).map (zv[·%zv.size]!)).toList:=λn=>by
 have hl:z.length=zv.size:=by rw[<-hz.length];simp
 refine aJ.Hm (by simp[oq,hl]) λi x v hx hv=>?_;have key:∀n i x,(bZ n z)[i]?=some x->z[i%zv.size]?=some x:=λn=>by
  induction n with
  | zero=>intro i x hx;simp[bZ]at hx
  | succ n ih =>
    intro i x hx;simp only[bZ]at hx
    by_cases hi:i<z.length
    . rw[yp hi]at hx;rw[Nat.mod_eq_of_lt d6];exact hx
    . rw[List.getElem?_append_right d6]at hx;have:=ih _ _ hx;rw[hl,<-Nat.mod_eq_sub_mod d6]at this;exact this
 have lJ:=key n i x hx;obtain⟨u,hu,hr⟩:=hz.get lJ;simp only[Array.toList_map,po,so]at hv;obtain⟨j,hj,rfl⟩:=hv;have Me:j=i:=by
  rw[nO,Array.getElem?_range]at hj;split at hj
  . simp at hj;exact hj.symm
  . cases hj
 subst Me;have aA:j%zv.size<zv.size:=by
  have:=(dw.1 hu).1;simpa using this
 rw[getElem!_pos zv _ aA];rw[nO,getElem?_pos zv _ aA]at hu;cases hu;exact hr
def vA(P:Program)(t:TypeId)(n:Nat)(mu:Bool)(parts:List (Nat×AV)):aW :=
 match ig P t with
 | some (e,sz)=>match s8 P e with
   | some z=>.cond (n*sz<=16777216) (ja (λi=>some (i*sz,sz)) parts (bZ n z) λcs=>.cond (cs.length=n*sz) (if mu then .rJ n sz e none cs else .val (.vec n .full cs)))
   | none=>.bad
 | none=>.bad
def FF(h:bT g U w){t:TypeId}{n:Nat}{mu:Bool}{parts:List (Nat×AV)}{vs:Array (Nat×Value)}(hl:vs.size=parts.length)(hp:∀(i:Nat)(p:Nat×AV)(q:Nat×Value),parts[i]?=some p->vs[i]?=some q->p.1=q.1/\aB g p.2 q.2) :
 aW.Fits C g U (vA C.P t n mu parts) ((do let r <- Instr.buildSlice t n vs;pure (Next.value r):Sem Next).run C.P w):=by
 unfold vA;split
 . rename_i e sz hs;split
   . rename_i z hz;intro hn;obtain⟨i,zv,hu,hi,rh,AD,rfl,tc,_,h1⟩:=kU hs;obtain⟨i',zv',mE,ye,hm⟩:=pY hz;rw[hi]at mE;cases mE;rw[rh]at ye;cases ye;obtain⟨h1,h2⟩:=gx (g:=g) hm;have Mp:¬ (n*i.size > 2 ^ 24):=by omega
     have hzc:=xx (g:=g) h1 n;have key:=yO (C:=C) (g:=g) (U:=U) (w:=w) (place:=λj=>some (j*i.size,i.size)) (k:=λcs=>.cond (cs.length=n*i.size) (if mu then .rJ n i.size e none cs else .val (.vec n .full cs)))
      (kk:=λcs=>do pure (.slice (some (<- newRow e cs)) n n)) (S := "buildSlice: a part of the wrong size") (λz cs hz yR=>by
      intro hlen;have wh:cs.size=n*i.size:=by rw[<-wH,hz.length,hlen]
      have JB:n<=maxLen:=by
       have:n<=n*i.size:=Nat.le_mul_of_pos_right _ tc;unfold maxLen;omega
      simp only[newRow,dk,dO,run_newObj,dL];split
      . have:=tV (C:=C) (del:=none) (e:=e) (sz:=i.size) (n:=n) (c:=n) h (vs:=cs.toList) (rest:=[]) hz yR d8 (by simp[wh]) (da _) JB;simpa using this
      . obtain⟨g',hle,qB,_,_,fj⟩:=h.UX e cs cs.toList [] d8 yR;refine⟨_,_,g',.inl rfl,hle,fj,?_⟩;simp only[aB];exact⟨w.heap.size,0,n,cs.toList,rfl,da _,JB,rfl,qB,hz.mono hle⟩) parts vs.toList (bZ n z) ((Array.range (n*zv.cells.size)).map (zv.cells[·%zv.cells.size]!)) (by simpa using hl) (λi p q h1 h2=>hp i p q h1 (by simpa using h2)) hzc (by
        intro u hu;simp only[Array.toList_map,List.mem_map]at hu;obtain⟨j,_,rfl⟩:=hu;have aA:j%zv.cells.size<zv.cells.size:=Nat.mod_lt _ d6;rw[getElem!_pos zv.cells _ aA];exact h2 _ d8)
     simp only[Instr.buildSlice,dk,run_underlying hu,gy hi,dL,if_neg Mp,hX,jL hi rh,dO]
     by_cases h0:n*i.size=0
     . have Ay:n=0:=by
        rcases Nat.mul_eq_zero.1 h0 with h|h
        . exact h
        . omega
       subst Ay;simp only[Nat.zero_mul,if_true,dL]at key ⊢;have e1:(Array.range 0).map ((#[]:Array Value)[·%(#[]:Array Value).size]!)=(Array.range 0).map (zv.cells[·%zv.cells.size]!):=by simp
       rw[e1];cases hf:Instr.fill (λj=>some (j*i.size,i.size)) ((Array.range 0).map (zv.cells[·%zv.cells.size]!)) vs.toList with
       | none=>simp only[hf,dk,run_stuck,Result.andThen_halt]at key ⊢;exact key
       | some GA=>simp only[hf,dk,dO,dL]at key ⊢;exact key
     . simp only[if_neg h0,dL];rw[AD]at key ⊢;cases hf:Instr.fill (λj=>some (j*i.size,i.size)) ((Array.range (n*i.size)).map (zv.cells[·%i.size]!)) vs.toList with
       | none=>simp only[hf,dk,run_stuck,Result.andThen_halt]at key ⊢;exact key
       | some GA=>simp only[hf,dk,dO,dL]at key ⊢;exact key
   . trivial
 . trivial
def uf(P:Program)(t:TypeId):Option (FK×TypeId) :=
 match P.underlying t with
 | some (.map k e)=>match P.underlying k with
   | some (.int _)=>some (.i,e)
   | some .string=>some (.s,e)
   | _=>none
 | _=>none
def jZ:FK->AV->AV->Option Bool
 | .i,.int k a,.int k' b=>if k=k' then some (a==b) else none
 | .s,.str a,.str b=>some (a==b)
 | _,_,_=>none
def sR:FK->AV->Bool
 | .i,.int _ _=>true
 | .s,.str _=>true
 | _,_=>false
def ow(fk:FK)(k:AV):List AV->Nat->Option (Option Nat)
 | [],_=>some none
 | y::ys,i=>match jZ fk k y with
   | none=>none
   | some b=>if b=true then some (some i) else ow fk k ys (i+1)
def jG(k v:AV):List AV->List AV->List AV×List AV
 | [],_=>([k],[v])
 | y::ys,ws=>if lZ k y=true then (k::y::ys,v::ws) else
   match ws with
   | []=>([k],[v])
   | x::xs=>(y::(jG k v ys xs).1,x::(jG k v ys xs).2)
def ug(P:Program)(t:TypeId)(m k v:AV)(U:St):aW :=
 match uf P t,m with
 | some (fk,_),.mp id=>match U.mp id with
   | some (ks,vs)=>match ow fk k ks 0,sR fk k with
     | some none,true=>.kg (.az []) id (.mp (jG k v ks vs).1 (jG k v ks vs).2)
     | some (some i),true=>.kg (.az []) id (.mp ks (vs.set i v))
     | _,_=>.bad
   | none=>.bad
 | _,_=>.bad
def mM(U:St):AV->Option (List AV×List AV)
 | .mp id=>U.mp id
 | .iK ks vs=>some (ks,vs)
 | .lK=>some ([],[])
 | _=>none
def pM(fk:FK)(k:AV)(CW:AV)(ok:Bool):List AV->List AV->aW
 | y::ys,v::vs=>match jZ fk k y with
   | none=>.bad
   | some b=>if b=true then .val (if ok then .az [v,.bool true] else v) else pM fk k CW ok ys vs
 | _,_=>.val (if ok then .az [CW,.bool false] else CW)
def zeroV(P:Program)(t:TypeId):Option AV:=((P.info? t).bind (·.zero)).map Je
def AL(P:Program)(t:TypeId)(m k:AV)(ok:Bool)(U:St):aW :=
 match uf P t,mM U m with
 | some (fk,e),some (ks,vs)=>match zeroV P e,sR fk k with
   | some z,true=>pM fk k z ok ks vs
   | _,_=>.bad
 | _,_=>.bad
def Ds(h:uf P t=some (fk,e)):∃k,P.underlying t=some (.map k e)/\((fk=.i/\∃q,P.underlying k=some (.int q))\/(fk=.s/\P.underlying k=some .string)):=by
 unfold uf at h;split at h
 . rename_i k e' hu;split at h
   . rename_i q hq;simp only[kP,jK]at h;obtain⟨rfl,rfl⟩:=h;exact⟨k,hu,.inl ⟨rfl,q,hq⟩⟩
   . rename_i hq;simp only[kP,jK]at h;obtain⟨rfl,rfl⟩:=h;exact⟨k,hu,.inr ⟨rfl,hq⟩⟩
   . cases h
 . cases h
def xj{k:TypeId}(hd:P.underlying k=some d)(hk:(fk=.i/\∃q,d=.int q)\/(fk=.s/\d=.string)){b:Bool}(hx:aB g x u)(hy:aB g y v)(h:jZ fk x y=some b) :
 Instr.sameNow d u v=some b:=by
 rcases hk with ⟨rfl,q,rfl⟩|⟨rfl,rfl⟩<;>cases x<;>cases y<;>simp only[jZ,reduceCtorEq]at h
 . split at h
   . rename_i e;subst e;simp only[aB]at hx hy;subst hx hy;simp at h;subst h;simp[Instr.sameNow]
   . cases h
 . simp only[aB]at hx hy;subst hx hy;simp only[kP]at h;subst h;simp only[Instr.sameNow,beq_toListBytes,ByteArray.toList_eq,List.toList_toArray]
def findNow_spec:∀(es:List MapEntry)(i:Nat),(∀e∈es,∃b,Instr.sameNow d u e.key=some b) ->
 ((∀e∈es,Instr.sameNow d u e.key=some false)/\Instr.findNow d u es i=some none) \/
 (∃j e,es[j]?=some e/\Instr.sameNow d u e.key=some true/\Instr.findNow d u es i=some (some (i+j,e.val)))
 | [],i,_=>.inl ⟨d8,by simp[Instr.findNow]⟩
 | e::es,i,h=>by
   obtain⟨b,hb⟩:=h e d8;cases b
   . rcases findNow_spec es (i+1) (λx hx=>h x (by simp[hx])) with ⟨h1,h2⟩|⟨j,e',h1,h2,h3⟩
     . refine .inl ⟨λx hx=>?_,by simp[Instr.findNow,hb,h2]⟩;rcases dy.1 hx with rfl|hx
       . exact hb
       . exact h1 x hx
     . exact .inr ⟨j+1,e',by simpa using h1,h2,by simp[Instr.findNow,hb,h3];omega⟩
   . exact .inr ⟨0,e,d8,hb,by simp[Instr.findNow,hb]⟩
def zJ(h:jZ fk k y=some true):k=y:=by
 cases fk<;>cases k<;>cases y<;>simp only[jZ,reduceCtorEq]at h
 . split at h
   . rename_i e;subst e;simp at h;rw[h]
   . cases h
 . simp at h;rw[h]
def RQ(k:AV):lZ k k=false:=by
 cases k<;>simp[lZ]
def OH{a b c:AV}(h:lZ a b)(h':lZ b c):lZ a c:=by
 cases a<;>cases b<;>simp only[lZ,bW]at h<;>cases c<;>simp only[lZ,bW,cS,dU]at h h' ⊢
 . exact⟨h.1.trans h'.1,d6⟩
 . exact List.lt_trans h h'
def abg(h:jZ fk k y=some false):lZ k y\/lZ y k:=by
 cases fk<;>cases k<;>cases y<;>simp only[jZ,reduceCtorEq]at h
 . split at h
   . rename_i e;subst e;simp at h;simp[lZ];omega
   . cases h
 . simp at h;simp only[lZ,dU];rcases Classical.em ((_:List UInt8)<_) with hl|hl
   . exact .inl hl
   . refine .inr ?_;rcases Classical.em ((_:List UInt8)<_) with qI|qI
     . exact qI
     . exact absurd (List.le_antisymm (List.not_lt.1 qI) (List.not_lt.1 hl)) h
def Ha{z:AV}(h:jZ fk k y=some true)(hz:lZ y z\/lZ z y):∃b,jZ fk k z=some b:=by
 have:=zJ h;subst this;cases fk<;>cases k<;>cases z<;>simp[jZ,lZ]at h hz ⊢
 rcases hz with ⟨e,_⟩|⟨e,_⟩
 . exact e
 . exact e.symm
def Bn:∀{ks:List AV}{s:Nat}{r:Option Nat},ow fk k ks s=some r ->
 (r=none/\∀y∈ks,jZ fk k y=some false)\/(∃i,r=some (s+i)/\∃y,ks[i]?=some y/\jZ fk k y=some true)
 | [],s,r,h=>by simp only[ow,kP]at h;exact .inl ⟨h.symm,d8⟩
 | y::ys,s,r,h=>by
   simp only[ow]at h;split at h
   . cases h
   . rename_i b hb;cases b
     . simp only[bW,if_false]at h;rcases Bn h with ⟨h1,h2⟩|⟨i,h1,z,h2,h3⟩
       . refine .inl ⟨h1,λz hz=>?_⟩;rcases dy.1 hz with rfl|hz
         . exact hb
         . exact h2 z hz
       . exact .inr ⟨i+1,by rw[h1];congr 1;omega,z,by simpa using h2,h3⟩
     . simp only[if_true,kP]at h;exact .inr ⟨0,by rw[<-h];rfl,y,d8,hb⟩
def SL{ks:List AV}(h:sy ks){i:Nat}(hi:ks[i]?=some y)(hj:ks[j]?=some y):i=j:=by
 have key:∀i j,i<j->ks[i]?=some y->ks[j]?=some y->False:=λi j eF hi hj=>by
  obtain⟨h1,h2⟩:=dw.1 hi;obtain⟨h3,h4⟩:=dw.1 hj;have:=List.pairwise_iff_getElem.1 h i j h1 h3 eF;rw[h2,h4,RQ]at this;cases this
 rcases Nat.lt_trichotomy i j with h|h|h
 . exact (key i j h hi hj).elim
 . exact h
 . exact (key j i h hj hi).elim
def FI{kt:TypeId}(hd:P.underlying kt=some d)(hk:(fk=.i/\∃q,d=.int q)\/(fk=.s/\d=.string))(hx:aB g x u)
 {ks:List AV} {l es:List MapEntry} (hp:l.Perm es) (hs:sy ks) (hr:aJ g ks (l.map (·.key))) {r:Option Nat} (h:ow fk x ks 0=some r) :
 (r=none/\(∀y∈ks,jZ fk x y=some false)/\∀i,Instr.findNow d u es i=some none) \/
 (∃i j e,r=some i/\ks[i]?=some x/\l[i]?=some e/\es[j]?=some e/\aB g x e.key/\∀s,Instr.findNow d u es s=some (some (s+j,e.val))):=by
 have mem:∀e∈es,∃i y,ks[i]?=some y/\l[i]?=some e/\aB g y e.key:=λe he=>by
  obtain⟨i,hi⟩:=List.getElem?_of_mem (hp.mem_iff.2 he);have aA:i<ks.length:=by
   have h1:=(dw.1 hi).1;have:=hr.length;simp at this;omega
  obtain⟨v,hv,Um⟩:=hr.get (i:=i) (x:=ks[i]) (mP aA);rw[po,hi]at hv;simp at hv;subst hv;exact⟨i,ks[i],mP aA,hi,Um⟩
 rcases Bn h with ⟨rfl,h1⟩|⟨i,rfl,y,h1,h2⟩
 . refine .inl ⟨rfl,h1,λs=>?_⟩;have hf:∀e∈es,Instr.sameNow d u e.key=some false:=λe he=>by
    obtain⟨i,y,hy,_,Uq⟩:=mem e he;exact xj (P:=P) hd hk hx Uq (h1 y (fT hy))
   rcases findNow_spec es s (λe he=>⟨_,hf e he⟩) with ⟨_,h2⟩|⟨j,e,q1,q2,_⟩
   . exact h2
   . rw[hf e (fT q1)]at q2;cases q2
 . have Ff:=zJ h2;subst Ff;have all:∀z∈ks,∃b,jZ fk x z=some b:=λz hz=>by
    obtain⟨j,hj⟩:=List.getElem?_of_mem hz;rcases Nat.lt_trichotomy i j with eF|eF|eF
    . obtain⟨a1,a2⟩:=dw.1 h1;obtain⟨a3,a4⟩:=dw.1 hj;have:=List.pairwise_iff_getElem.1 hs i j a1 a3 eF;rw[a2,a4]at this;exact Ha h2 (.inl this)
    . subst eF;rw[h1]at hj;cases hj;exact⟨_,h2⟩
    . obtain⟨a1,a2⟩:=dw.1 h1;obtain⟨a3,a4⟩:=dw.1 hj;have:=List.pairwise_iff_getElem.1 hs j i a3 a1 eF;rw[a2,a4]at this;exact Ha h2 (.inr this)
   have same:∀e∈es,∃b,Instr.sameNow d u e.key=some b:=λe he=>by
    obtain⟨i,y,hy,_,Uq⟩:=mem e he;obtain⟨b,hb⟩:=all y (fT hy);exact⟨b,xj (P:=P) hd hk hx Uq hb⟩
   have Mj:∃e0,l[i]?=some e0/\aB g x e0.key:=by
    obtain⟨v,hv,Um⟩:=hr.get h1;rw[po,so]at hv;obtain⟨e0,h3,rfl⟩:=hv;exact⟨e0,h3,Um⟩
   obtain⟨e0,tX,agz⟩:=Mj;have h0s:Instr.sameNow d u e0.key=some true:=xj (P:=P) hd hk hx agz h2;have h0m:e0∈es:=hp.mem_iff.1 (fT tX);have pick:∀s,∃j,es[j]?=some e0/\Instr.findNow d u es s=some (some (s+j,e0.val)):=λs=>by
    rcases findNow_spec es s same with ⟨q1,_⟩|⟨j,e,q1,q2,q3⟩
    . rw[q1 e0 h0m]at h0s;cases h0s
    . obtain⟨i',y,hy,yT,Uq⟩:=mem e (fT q1);obtain⟨b,hb⟩:=all y (fT hy);have PQ:=xj (P:=P) hd hk hx Uq hb;rw[q2]at PQ;simp only[kP]at PQ;subst PQ;have Ff:=zJ hb;subst Ff;have hii:=SL hs h1 hy;subst hii;rw[tX]at yT;cases yT;exact⟨j,q1,q3⟩
   obtain⟨j,hj,hjf⟩:=pick 0;refine .inr ⟨i,j,e0,by rw[cK],h1,tX,hj,agz,λs=>?_⟩;have shift:∀(es:List MapEntry)(a b:Nat)j v,Instr.findNow d u es a=some (some (a+j,v))->Instr.findNow d u es b=some (some (b+j,v)):=λes=>by
    induction es with
    | nil=>intro a b j v h;simp[Instr.findNow]at h
    | cons e es ih =>
      intro a b j v h;simp only[Instr.findNow]at h ⊢;cases rZ:Instr.sameNow d u e.key with
      | none=>rw[rZ]at h;cases h
      | some t =>
        rw[rZ]at h;cases t
        . dsimp only at h ⊢;have hle:∀(es:List MapEntry)(a:Nat)r v,Instr.findNow d u es a=some (some (r,v))->a<=r:=λes=>by
           induction es with
           | nil=>intro a r v h;simp[Instr.findNow]at h
           | cons e es ih =>
             intro a r v h;simp only[Instr.findNow]at h;cases rZ:Instr.sameNow d u e.key with
             | none=>rw[rZ]at h;cases h
             | some t =>
               rw[rZ]at h;cases t
               . have:=ih _ _ _ h;omega
               . simp at h;omega
          have h1:=hle _ _ _ _ h;have:=ih (a+1) (b+1) (j-1) v (by rw[h];congr 3;omega);rw[this];congr 3;omega
        . simp at h ⊢;obtain⟨h1,h2⟩:=h;exact⟨d6,h2⟩
   exact shift es 0 s j _ hjf
def abA{α:Type}{l m:List α}(h:l.Perm m){i:Nat}{e:α}(hi:l[i]?=some e)(hj:m[j]?=some e)(e':α):(l.set i e').Perm (m.set j e'):=by
 obtain⟨h1,h2⟩:=dw.1 hi;obtain⟨h3,h4⟩:=dw.1 hj;have el:l=l.take i++e::l.drop (i+1):=by
  conv=>lhs;rw[<-List.take_append_drop i l,gI h1,h2]
 have em:m=m.take j++e::m.drop (j+1):=by
  conv=>lhs;rw[<-List.take_append_drop j m,gI h3,h4]
 rw[List.set_eq_take_append_cons_drop,if_pos h1,List.set_eq_take_append_cons_drop,if_pos h3];have hp:(l.take i++e::l.drop (i+1)).Perm (m.take j++e::m.drop (j+1)):=by rw[<-el,<-em];exact h
 have h5:=(List.perm_middle.symm.trans hp).trans List.perm_middle;have h6:=List.Perm.cons_inv h5;exact (List.perm_middle.trans (h6.cons e')).trans List.perm_middle.symm
def run_checkKey{k:TypeId}{em:Bool}(hd:P.underlying k=some d)(hk:(∃q,d=.int q)\/d=.string)(n:Nat)(v:Value):(Instr.checkKey em (n+1) k v).run P w=.ok () w:=by
 rcases hk with ⟨q,rfl⟩|rfl<;>simp[Instr.checkKey,run_underlying hd]
def aJ.set:∀{l:List AV}{vs:List Value}{x:AV}{u:Value}(i:Nat),aJ g l vs->aB g x u->aJ g (l.set i x) (vs.set i u)
 | [],_,_,_,_,h,_=>by simp only[aJ]at h;subst h;simp[aJ]
 | y::ys,_,x,u,0,h,hx=>by
   simp only[aJ]at h;obtain⟨v,vs,rfl,h1,h2⟩:=h;simp only[List.set_cons_zero,aJ];exact⟨u,vs,rfl,hx,h2⟩
 | y::ys,_,x,u,i+1,h,hx=>by
   simp only[aJ]at h;obtain⟨v,vs,rfl,h1,h2⟩:=h;simp only[List.set_cons_succ,aJ];exact⟨v,_,rfl,h1,aJ.set i h2 hx⟩
def MG{v:AV}{e:MapEntry}(hk:aB g k e.key)(hv:aB g v e.val):∀(ks vs:List AV)(l:List MapEntry),aJ g ks (l.map (·.key))->aJ g vs (l.map (·.val)) ->
 ∃l':List MapEntry,l'.Perm (e::l)/\aJ g (jG k v ks vs).1 (l'.map (·.key))/\aJ g (jG k v ks vs).2 (l'.map (·.val))
 | [],vs,l,h1,h2=>by
   simp only[aJ,List.map_eq_nil_iff]at h1;subst h1;exact⟨[e],List.Perm.refl _,by simp only[jG,fh,mq,aJ];exact⟨_,_,rfl,hk,rfl⟩,by simp only[jG,fh,mq,aJ];exact⟨_,_,rfl,hv,rfl⟩⟩
 | y::ks,vs,[],h1,h2=>by simp[aJ]at h1
 | y::ks,[],f::l,h1,h2=>by simp[aJ]at h2
 | y::ks,x::vs,f::l,h1,h2=>by
   simp only[jG]
   by_cases aA:lZ k y
   . rw[if_pos aA];exact⟨e::f::l,List.Perm.refl _,by rw[fh];simp only[aJ]at h1 ⊢;exact⟨_,_,rfl,hk,h1⟩,by rw[fh];simp only[aJ]at h2 ⊢;exact⟨_,_,rfl,hv,h2⟩⟩
   . rw[if_neg aA];simp only[aJ,fh,List.cons.injEq]at h1 h2;obtain⟨_,_,⟨rfl,rfl⟩,hy,h1⟩:=h1;obtain⟨_,_,⟨rfl,rfl⟩,hx,h2⟩:=h2;obtain⟨l',h3,h4,h5⟩:=MG hk hv ks vs l h1 h2;exact⟨f::l',((h3.cons f).trans (List.Perm.swap e f l)),by simp only[fh,aJ];exact⟨_,_,rfl,hy,h4⟩,by simp only[fh,aJ];exact⟨_,_,rfl,hx,h5⟩⟩
def By{v:AV}:∀(ks vs:List AV)(z:AV),z∈(jG k v ks vs).1->z=k\/z∈ks
 | [],vs,z,h=>by simp[jG]at h;exact .inl h
 | y::ks,vs,z,h=>by
   simp only[jG]at h;split at h
   . simpa using h
   . split at h
     . simp at h;exact .inl h
     . rename_i x xs;simp only[dy]at h ⊢;rcases h with h|h
       . exact .inr (.inl h)
       . rcases By ks xs z h with h|h
         . exact .inl h
         . exact .inr (.inr h)
def Fh{v:AV}:∀(ks vs:List AV),sy ks->(∀y∈ks,lZ k y\/lZ y k)->sy (jG k v ks vs).1
 | [],vs,h1,h2=>by simp[jG,sy]
 | y::ks,vs,h1,h2=>by
   unfold sy at h1 ⊢;rw[List.pairwise_cons]at h1;simp only[jG];split
   . rename_i aA;rw[List.pairwise_cons,List.pairwise_cons];refine⟨λz hz=>?_,h1⟩;rcases dy.1 hz with rfl|hz
     . exact aA
     . exact OH aA (h1.1 z hz)
   . rename_i aA;split
     . simp
     . rename_i x xs;rw[List.pairwise_cons];refine⟨λz hz=>?_,Fh ks xs h1.2 λz hz=>h2 z (by simp[hz])⟩;rcases By ks xs z hz with rfl|hz
       . rcases h2 y d8 with h|h
         . exact absurd h aA
         . exact h
       . exact h1.1 z hz
def nD.push{clock:Nat}(h:nD es clock)(k v:Value):nD (es.push ⟨k,v,clock⟩) (clock+1):=by
 obtain⟨h1,h2⟩:=h;refine⟨?_,λe he=>?_⟩
 . simp only[Array.toList_push,List.map_append,fh,mq];rw[List.nodup_append];refine⟨h1,d8,λa ha b hb=>?_⟩;simp at hb;subst hb;obtain⟨e,he,rfl⟩:=List.mem_map.1 ha;exact Nat.ne_of_lt (h2 e he)
 . simp only[Array.toList_push,gV,lT]at he;rcases he with he|rfl
   . have:=h2 e he;omega
   . simp
def EK{e:MapEntry}(hj:es.toList[j]?=some e)(f:MapEntry->MapEntry):(es.modify j f).toList=es.toList.set j (f e):=by
 apply List.ext_getElem?;intro i;simp only[Array.toList_modify,List.getElem?_modify,List.getElem?_set]
 by_cases eF:j=i
 . subst eF;have aA:=(dw.1 hj).1;simp only[if_true,hj,if_pos aA];rfl
 . simp only[if_neg eF];cases es.toList[i]?<;>rfl
def nD.modify{Ah:Array MapEntry}{clock:Nat}(h:nD es clock){e e':MapEntry}(hj:es.toList[j]?=some e)(hb:e'.born=e.born)(he:Ah.toList=es.toList.set j e'):nD Ah clock:=by
 have hm:Ah.toList.map (·.born)=es.toList.map (·.born):=by
  rw[he,List.map_set,hb];apply List.ext_getElem?;intro i;rw[List.getElem?_set];split
  . rename_i eF;subst eF;rw[po,hj];have aA:=(dw.1 hj).1;simp at aA ⊢;exact aA
  . rfl
 refine⟨by rw[hm];exact h.1,λx hx=>?_⟩;have:x.born∈Ah.toList.map (·.born):=List.mem_map_of_mem hx;rw[hm]at this;obtain⟨y,hy,hy2⟩:=List.mem_map.1 this;rw[<-hy2];exact h.2 y hy
def za(h:bT g U w){t:TypeId}{m:AV}{vm vk vx:Value}(hm:aB g m vm)(hk:aB g k vk)(hx:aB g x vx) :
 aW.Fits C g U (ug C.P t m k x U) ((do Instr.mapUpdate t vm vk vx;pure Next.skip:Sem Next).run C.P w):=by
 unfold ug;split
 . rename_i fk e id ht;split
   . rename_i ks vs Mm;obtain⟨kt,hu,hkt⟩:=Ds ht;obtain⟨d,hd,E8⟩:∃d,C.P.underlying kt=some d/\((fk=.i/\∃q,d=.int q)\/(fk=.s/\d=.string)):=by
      rcases hkt with ⟨rfl,q,hq⟩|⟨rfl,hq⟩
      . exact⟨_,hq,.inl ⟨rfl,q,rfl⟩⟩
      . exact⟨_,hq,.inr ⟨rfl,rfl⟩⟩
     have aa0:(∃q,d=.int q)\/d=.string:=E8.imp (·.2) (·.2);simp only[aB]at hm;obtain⟨r,hr,rfl⟩:=hm;obtain⟨r',es,clock,q1,q2,q3,qb,⟨l,q4,q5,q6,q7⟩,q8⟩:=h.mp id _ Mm;rw[hr]at q1;cases q1;have wC:(getObj r).run C.P w=.ok (.map es clock) w:=by simp[getObj,Sem.run,q3]
     have TU:=run_checkKey (P:=C.P) (w:=w) (em:=false) hd aa0 9999 vk;have Bt:∀o,(setObj r o).run C.P w=.ok () { w with heap:=w.heap.setIfInBounds r o }:=λo=>by simp[setObj,Sem.run,q3]
     split
     . rename_i hf PH;rcases FI (P:=C.P) hd E8 hk q4 q5 q6 hf with ⟨_,ha,hn⟩|⟨i,_,_,he,_⟩
       . simp only[Instr.mapUpdate,dk,run_underlying hu,dL,wC,TU,Instr.findKey,run_underlying hd,hn,dO,Bt];obtain⟨l',p1,p2,p3⟩:=MG (e:=⟨vk,vx,clock⟩) hk hx ks vs l q6 q7;refine⟨undef,_,g,.inr ⟨rfl,rfl⟩,Gh.Le.refl g,h.VE Mm (kv':=jG k x ks vs) hr q3 ⟨l',?_,?_,p2,p3⟩ (qb.push vk vx),by simp only[aB];exact⟨[],rfl,by simp[aJ]⟩⟩
         . rw[Array.toList_push];exact (p1.trans (q4.cons _)).trans (List.perm_append_singleton _ _).symm
         . exact Fh ks vs q5 λy hy=>abg (ha y hy)
       . cases he
     . rename_i i hf PH;rcases FI (P:=C.P) hd E8 hk q4 q5 q6 hf with ⟨he,_⟩|⟨i',j,e,he,agH,Mj,TW,her,hn⟩
       . cases he
       . cases he;have Ay:=hn 0;rw[cK]at Ay;have aA:j<es.size:=by
          have:=(dw.1 TW).1;simpa using this
         have ajz:es[j]?=some e:=by rw[<-nO];exact TW
         have ait:Instr.sameBits 10000 e.key vk:=by
          rcases E8 with ⟨rfl,_⟩|⟨rfl,_⟩<;>cases k<;>simp only[sR,bW]at PH
          . simp only[aB]at hk her;rw[hk,her];simp[Instr.sameBits]
          . simp only[aB]at hk her;rw[hk,her];simp[Instr.sameBits,beq_toListBytes]
         have PQ:(Instr.keyThatStays e.key vk).run C.P w=.ok vk w:=by simp[Instr.keyThatStays,ait]
         have ajK:((es[j]?).map (·.key)).getD vk=e.key:=by rw[ajz];rfl
         simp only[Instr.mapUpdate,dk,run_underlying hu,dL,wC,TU,Instr.findKey,run_underlying hd,Ay,dO,Bt,ajK,PQ];have agJ:=EK TW (λe=>{ e with key:=vk,val:=vx })
         refine⟨undef,_,g,.inr ⟨rfl,rfl⟩,Gh.Le.refl g,h.VE Mm (kv':=(ks,vs.set i x)) hr q3 ⟨l.set i { e with key:=vk,val:=vx },?_,q5,?_,?_⟩ (qb.modify (e':={ e with key:=vk,val:=vx }) TW rfl agJ),by simp only[aB];exact⟨[],rfl,by simp[aJ]⟩⟩
         . rw[agJ];exact abA q4 Mj TW _
         . rw[List.map_set];have:=q6.set i hk;have e1:ks.set i k=ks:=by
            apply List.ext_getElem?;intro a;rw[List.getElem?_set];split
            . rename_i ha;subst ha;split
              . exact agH.symm
              . rename_i hn;exact absurd (dw.1 agH).1 hn
            . rfl
           rw[e1]at this;exact this
         . rw[List.map_set];exact q7.set i hx
     . trivial
   . trivial
 . trivial
def Hf{z:AV}{ok:Bool}:∀(ks vs:List AV)(s:Nat),ks.length=vs.length->pM fk k z ok ks vs=(match ow fk k ks s with
 | none=>.bad
 | some none=>.val (if ok then .az [z,.bool false] else z)
 | some (some i)=>.val (if ok then .az [vs.getD (i-s) z,.bool true] else vs.getD (i-s) z))
 | [],[],s,_=>by simp[pM,ow]
 | [],_::_,s,h=>by simp at h
 | _::_,[],s,h=>by simp at h
 | y::ks,v::vs,s,h=>by
   simp only[pM,ow];cases hb:jZ fk k y with
   | none=>rfl
   | some b =>
     cases b
     . simp only[bW,if_false];rw[Hf ks vs (s+1) (by simpa using h)];cases hf:ow fk k ks (s+1) with
       | none=>rfl
       | some r =>
         cases r with
         | none=>rfl
         | some i =>
           rcases Bn hf with ⟨h1,_⟩|⟨i',h1,_⟩
           . cases h1
           . cases h1;have e1:s+1+i'-(s+1)=i':=by omega
             have e2:s+1+i'-s=i'+1:=by omega
             simp only[e1,e2,List.getD_cons_succ]
     . simp only[if_true,Nat.sub_self,List.getD_cons_zero]
def MU(h:bT g U w){t:TypeId}{m:AV}{vm vk:Value}{ok:Bool}(hm:aB g m vm)(hk:aB g k vk) :
 aW.Fits C g U (AL C.P t m k ok U) ((do let r <- Instr.lookup t vm vk ok;pure (Next.value r):Sem Next).run C.P w):=by
 unfold AL;split
 . rename_i fk e ks vs ht he;split
   . rename_i z hz PH;obtain⟨kt,hu,hkt⟩:=Ds ht;obtain⟨d,hd,E8⟩:∃d,C.P.underlying kt=some d/\((fk=.i/\∃q,d=.int q)\/(fk=.s/\d=.string)):=by
      rcases hkt with ⟨rfl,q,hq⟩|⟨rfl,hq⟩
      . exact⟨_,hq,.inl ⟨rfl,q,rfl⟩⟩
      . exact⟨_,hq,.inr ⟨rfl,rfl⟩⟩
     have aa0:(∃q,d=.int q)\/d=.string:=E8.imp (·.2) (·.2);obtain⟨i,vz,hi,ye,Us⟩:∃i vz,C.P.info? e=some i/\i.zero=some vz/\Je vz=z:=by
      unfold zeroV at hz;cases hi:C.P.info? e with
      | none=>simp[hi]at hz
      | some i =>
        cases rh:i.zero with
        | none=>simp[hi,rh]at hz
        | some vz=>simp[hi,rh]at hz;exact⟨i,vz,rfl,rh,hz⟩
     have adh:aB g z vz:=by rw[<-Us];exact Ia vz
     obtain⟨es,C9,l,hp,ajX,h1,h2⟩:∃es:Array MapEntry,((vm=.map none/\es=#[])\/∃r clock,vm=.map (some r)/\w.heap[r]?=some (Obj.map es clock))/\Bg g ks vs es:=by
      cases m<;>simp only[mM,reduceCtorEq,kP,jK]at he
      . obtain⟨rfl,rfl⟩:=he;simp only[aB]at hm;subst hm;exact⟨#[],.inl ⟨rfl,rfl⟩,[],List.Perm.refl _,by simp[sy],by simp[aJ],by simp[aJ]⟩
      . simp only[aB]at hm;obtain⟨r,hr,rfl⟩:=hm;obtain⟨r',es,clock,q1,q2,q3,_,q4,_⟩:=h.mp _ _ he;rw[hr]at q1;cases q1;exact⟨es,.inr ⟨r,clock,rfl,q3⟩,q4⟩
      . obtain⟨rfl,rfl⟩:=he;simp only[aB]at hm;obtain⟨r,es,clock,l,rfl,hr,q0,q1,q2,q3⟩:=hm;exact⟨es,.inr ⟨r,clock,rfl,(h.cY r es clock hr).1⟩,l,q0,q1,q2,q3⟩
     have hlen:ks.length=vs.length:=by
      have a:=h1.length;have b:=h2.length;simp at a b;omega
     rw[Hf ks vs 0 hlen];cases hf:ow fk k ks 0 with
     | none=>trivial
     | some r =>
       have TU:=run_checkKey (P:=C.P) (w:=w) (em:=es.isEmpty) hd aa0 9999 vk;have key:=FI (P:=C.P) hd E8 hk hp ajX h1 hf;have fin:∀q:Option (Nat×Value),Instr.findNow d vk es.toList 0=some q->(Instr.lookup t vm vk ok).run C.P w=(match q with
        | some (_,v)=>.ok (if ok then .tuple #[v,.bool true] else v) w
        | none=>.ok (if ok then .tuple #[vz,.bool false] else vz) w):=λq hq=>by
        rcases C9 with ⟨rfl,rfl⟩|⟨r,clock,rfl,hh⟩
        . simp only[Instr.lookup,dk,run_underlying hu,dL,dO,TU,Instr.findKey,run_underlying hd,hq];cases q with
          | none=>simp only[dO,dL,dk,jL hi ye]
          | some p=>rfl
        . have wC:(getObj r).run C.P w=.ok (Obj.map es clock) w:=by simp[getObj,Sem.run,hh]
          simp only[Instr.lookup,dk,run_underlying hu,dL,dO,wC,TU,Instr.findKey,run_underlying hd,hq];cases q with
          | none=>simp only[dO,dL,dk,jL hi ye]
          | some p=>rfl
       rcases key with ⟨rfl,_,hn⟩|⟨i,j,e,rfl,_,Mj,_,_,hn⟩
       . simp only[dk,fin _ (hn 0),dL,dO];refine bQ h ?_;cases ok
         . exact adh
         . simp only[if_true,aB];exact⟨[vz,.bool false],rfl,by simp only[aJ];exact⟨_,_,rfl,adh,_,_,rfl,by simp only[aB],rfl⟩⟩
       . simp only[dk,fin _ (hn 0),dL,dO,Nat.sub_zero];have hv:aB g (vs.getD i z) e.val:=by
          have aA:i<vs.length:=by
           have a:=(dw.1 Mj).1;have b:=h2.length;simp at b;omega
          obtain⟨v,hv,Um⟩:=h2.get (i:=i) (x:=vs[i]) (mP aA);rw[po,Mj]at hv;simp at hv;subst hv;have:vs.getD i z=vs[i]:=by simp[pq,aA]
          rw[this];exact Um
         refine bQ h ?_;cases ok
         . exact hv
         . simp only[if_true,aB];exact⟨[e.val,.bool true],rfl,by simp only[aJ];exact⟨_,_,rfl,hv,_,_,rfl,by simp only[aB],rfl⟩⟩
   . trivial
 . trivial
def R7(h:bT g U w):aW.Fits C g U .zc (.ok (.value (.map (some w.heap.size))) (w.alloc (.map #[] 0))):=by
 obtain⟨b,g',h1,h2,h3,h4⟩:=h.yk (.map #[] 0) 0 0 (.mp [] []) λg' hle hi hm=>⟨#[],0,heap_alloc_new w _,⟨d8,d8⟩,⟨[],List.Perm.refl _,by simp[sy],by simp[aJ],by simp[aJ]⟩,hm⟩;exact⟨_,_,g',b,rfl,h1,h2,h4,by simp only[NV.at,aB];exact⟨_,Gh.sK.2 ⟨_,h3,rfl⟩,rfl⟩⟩
end
def fP(c a b:AV):aW :=
 match c with
 | .bool t=>.val (if t=true then a else b)
 | _=>.bad
def En(P:Program)(s f:Nat):Option (Nat×Bool×Nat) :=
 match P.underlying s with
 | some (.struct fields)=>match fields[f]? with
   | some x=>match qE P x.type with
     | some (b,n)=>some (x.offset,b,n)
     | none=>none
   | none=>none
 | _=>none
def C0(P:Program)(s:TypeId)(x:AV)(f:Nat):aW :=
 match En P s f,x with
 | some (o,true,n),.agg l=>.cond (o+n<=l.length) (.val (.agg ((l.drop o).take n)))
 | some (o,false,_),.agg l=>kn (l.drop o)
 | _,_=>.bad
def kQ(P:Program)(f:AV)(args:List AV):aW :=
 match f with
 | .func (.func g) first cap=>if gP P g=true then .enter g (first++args++cap) else .bad
 | .uK o=>.yield o args
 | _=>.bad
def No(P:Program)(t:TypeId)(m:AV):aW :=
 match uf P t,m with
 | some _,.iK ks vs=>.new .it none (.iter (ks.zip vs) none)
 | _,_=>.bad
def xm:List (AV×AV)->List ((AV×AV)×List (AV×AV))
 | []=>[]
 | x::xs=>(x,xs)::(xm xs).map λp=>(p.1,x::p.2)
def vM(i:AV)(U:St):aW :=
 match i with
 | .it o=>match U.iter o with
   | some ([],_)=>.val (.az [.bool false])
   | some (x::xs,_)=>.ov o ((xm (x::xs)).map λp=>(.az [.bool true,p.1.1,p.1.2],.iter p.2 (some p.1)))
   | none=>.bad
 | _=>.bad
def o9(i:AV)(U:St):aW :=
 match i with
 | .it o=>match U.iter o with
   | some (_,some kv)=>.val (.az [kv.1,kv.2])
   | _=>.bad
 | _=>.bad
def Eh(P:Program)(t:TypeId):Option AV :=
 match P.underlying t with
 | some (.interface _)=>none
 | some _=>zeroV P t
 | none=>none
def zV(P:Program)(x:AV)(t:TypeId)(ok:Bool):aW :=
 match Eh P t,x with
 | some z,.iface u v=>if u=t then .val (if ok then .az [v,.bool true] else v) else if ok then .val (.az [z,.bool false]) else .bad
 | some z,.eu=>if ok then .val (.az [z,.bool false]) else .bad
 | _,_=>.bad
def xk(P:Program)(t:TypeId)(mu:Bool)(l c:AV):aW :=
 match ig P t,l,c with
 | some (e,sz),.int _ l,.int _ c=>match s8 P e with
   | some z=>.cond (0<=l/\l=c/\c<=65536) (if mu then .rJ l.toNat sz e none (bZ l.toNat z) else .qg l.toNat (bZ l.toNat z) none ⟨l.toNat,e,sz⟩)
   | none=>.bad
 | _,_,_=>.bad
def CU(P:Program)(t:TypeId)(x:AV)(U:St):aW :=
 match ig P t,x with
 | some (e,sz),.ms b off n lx _=>match U.box b,s8 P e with
   | some l,some z=>.cond (lx=sz/\off+n*sz<=l.length) (.kg (.az []) b (.box (ax l off (bZ n z))))
   | _,_=>.bad
 | _,_=>.bad
def GM(P:Program)(t u:TypeId):Option (TypeId×Nat×List AV) :=
 match P.underlying u with
 | some (.int _)=>match ig P t with
   | some (e,sz)=>match s8 P e with
     | some z=>some (e,sz,z)
     | none=>none
   | none=>none
 | _=>none
def KW(q:TypeId×Nat×List AV)(mu:Bool)(s y:AV):aW :=
 match s,y with
 | .af,.int _ n=>.cond (0<n/\n<=65536) (if mu then .rJ n.toNat q.2.1 q.1 none (bZ n.toNat q.2.2) else .qg n.toNat (bZ n.toNat q.2.2) none ⟨n.toNat,q.1,q.2.1⟩)
 | _,_=>.bad
def Lz(st:Option (TypeId×Nat))(x:AV):aW:=match st,x with
 | some _,.af=>.val (.int .i64 0)
 | _,_=>.bad
def Eg(P:Program)(t u:TypeId)(mu:Bool)(s y:AV)(U:St):aW :=
 match GM P t u with
 | some q=>KW q mu s y
 | none=>HZ P t u mu s y U
def Ek(C:dQ)(mu:Bool)(c:Call)(ρ:Env)(U:St):aW :=
 match c.callee,c.argTypes.toList,c.args.toList with
 | .value f,_,args=>kQ C.P (ρ.ev C f) (args.map (ρ.ev C))
 | .builtin .len,[t],[x]=>MQ C.P t (ρ.ev C x) U
 | .builtin .append,[t,u],[s,y]=>Eg C.P t u mu (ρ.ev C s) (ρ.ev C y) U
 | .builtin .cap,[t],[x]=>Lz (ig C.P t) (ρ.ev C x)
 | .builtin .min,_,[x,y]=>zM (ρ.ev C x) (ρ.ev C y)
 | .builtin .max,_,[x,y]=>FR (ρ.ev C x) (ρ.ev C y)
 | .builtin .clear,[t],[x]=>CU C.P t (ρ.ev C x) U
 | _,_,_=>.bad
def mj(C:dQ)(mu:Bool)(o:Op)(ρ:Env)(U:St):aW :=
 match o with
 | .move x|.assign x=>.val (ρ.ev C x)
 | .pick c a b=>fP (ρ.ev C c) (ρ.ev C a) (ρ.ev C b)
 | .alloc t=>Lp C.P t
 | .box _ x=>CR (ρ.ev C x)
 | .build t parts=>Lw C.P t (pa C ρ parts)
 | .buildSlice t n parts=>vA C.P t n mu (pa C ρ parts)
 | .insert t m k v|.mapUpdate t m k v=>ug C.P t (ρ.ev C m) (ρ.ev C k) (ρ.ev C v) U
 | .load t a=>y6 C.P t (ρ.ev C a) U
 | .store t a v=>NR C.P t (ρ.ev C a) (ρ.ev C v) U
 | .nilCheck x=>jf (ρ.ev C x)
 | .binOp op t x y _=>Lt C.P op t (isLit x||isLit y) (ρ.ev C x) (ρ.ev C y)
 | .unOp op _ x=>yx op (ρ.ev C x)
 | .convert s d x=>KU C.P s d (ρ.ev C x)
 | .makeInterface t x=>BK C.P t (ρ.ev C x)
 | .makeFunc fn first cap=>.val (.func fn (first.toList.map (ρ.ev C)) (cap.toList.map (ρ.ev C)))
 | .makeMap _ none=>.zc
 | .slice t x lo hi none=>NJ C.P t (ρ.ev C x) (lo.map (ρ.ev C)) (hi.map (ρ.ev C))
 | .fieldAddr s x f=>Bm C.P s (ρ.ev C x) f
 | .field s x f=>C0 C.P s (ρ.ev C x) f
 | .indexAddr t x i=>Bx C.P t (ρ.ev C x) (ρ.ev C i)
 | .index t x i=>G7 C.P t (ρ.ev C x) (ρ.ev C i)
 | .lookup t m k ok=>AL C.P t (ρ.ev C m) (ρ.ev C k) ok U
 | .extract t i=>jt (ρ.ev C t) i
 | .panic x=>yn (ρ.ev C x)
 | .range t m=>No C.P t (ρ.ev C m)
 | .typeAssert x _ t ok=>zV C.P (ρ.ev C x) t ok
 | .makeSlice t l c=>xk C.P t mu (ρ.ev C l) (ρ.ev C c)
 | .next i false=>vM (ρ.ev C i) U
 | .entry i=>o9 (ρ.ev C i) U
 | .call c=>Ek C mu c ρ U
 | _=>.bad
section
variable {C:dQ}{g:Gh}{U:St}{w:World}
def Ie(h:bT g U w){s f:Nat}(hx:aB g x v):aW.Fits C g U (C0 C.P s x f) ((do let r <- Instr.field s v f;pure (Next.value r):Sem Next).run C.P w):=by
 unfold C0;have key:∀{o b n},En C.P s f=some (o,b,n)->∃fs y i d,C.P.underlying s=some (.struct fs)/\fs[f]?=some y/\y.offset=o/\C.P.info? y.type=some i/\C.P.underlying y.type=some d/\HX d=b/\i.size=n:=λ{o b n}hf=>by
  unfold En at hf;split at hf
  . rename_i fs hu;split at hf
    . rename_i y hy;split at hf
      . rename_i b' n' hv;simp only[kP,jK]at hf;obtain⟨rfl,rfl,rfl⟩:=hf;obtain⟨i,d,h1,h2,h3,h4⟩:=rC hv;exact⟨fs,y,i,d,hu,hy,rfl,h1,h2,h3,h4⟩
      . cases hf
    . cases hf
  . cases hf
 split
 . rename_i o n l hf;obtain⟨fs,y,i,d,hu,hy,rfl,hi,hd,ha,rfl⟩:=key hf;intro hle;simp only[aB]at hx;obtain⟨vs,rfl,h1,hr⟩:=hx;simp only[Instr.field,dk,run_underlying hu,dL,hy,asAgg,dO,part,oB hd,ha,if_true,hX,gy hi];refine bQ h ?_;simp only[aB];refine⟨(vs.drop y.offset).take i.size,?_,λu hu=>h1 u (List.mem_of_mem_drop (List.mem_of_mem_take hu)),(hr.drop _).take _⟩;congr 1;apply Array.ext';simp[List.extract_eq_take_drop]
 . rename_i o n l hf;obtain⟨fs,y,i,d,hu,hy,rfl,hi,hd,ha,rfl⟩:=key hf;simp only[aB]at hx;obtain⟨vs,rfl,h1,hr⟩:=hx;cases hl:l.drop y.offset with
   | nil=>trivial
   | cons z zs =>
     have hz:l[y.offset]?=some z:=by
      have:=congrArg (λl=>l[0]?) hl;simpa using this
     obtain⟨u,r9,hzu⟩:=hr.get hz;have e:vs.toArray[y.offset]?=some u:=by simpa using r9
     simp only[Instr.field,dk,run_underlying hu,dL,hy,asAgg,dO,part,oB hd,ha,bW,if_false,hX,e];exact bQ h hzu
 . trivial
def Em(hG:kz C g)(hr:jO g ρ a.tmps):∀l:List Operand,aJ g (l.map (ρ.ev C)) (l.map a.eval)
 | []=>by simp[aJ]
 | x::l=>by simp only[fh,aJ];exact⟨_,_,rfl,xQ hG hr x,Em hG hr l⟩
def aaL(h:bT g U w){f:AV}{vf:Value}{args:List AV}(hf:aB g f vf)(ha:aJ g args vs) :
 aW.Fits C g U (kQ C.P f args) ((do let d <- Deferred.ofValue vf vs.toArray;invoke d.target d.args:Sem Next).run C.P w):=by
 unfold kQ;split
 . rename_i q first cap
   split
   . rename_i he;simp only[aB]at hf;obtain⟨fs,cs,rfl,h1,h2⟩:=hf;unfold gP at he;split at he
     . rename_i fn hfn;simp only[cS,Bool.not_eq_true']at he;have hb:fn.body.isNone=false:=by cases hb:fn.body<;>simp_all
       simp only[Deferred.ofValue,invoke,callFunc,dk,dO,dL,run_program,hfn,he.2,hb,bW,if_false,hX];exact⟨fs++vs++cs,w,d8,h,(h1.append ha).append h2⟩
     . cases he
   . trivial
 . rename_i o;simp only[aB]at hf;obtain⟨x,hx,rfl⟩:=hf;simp only[Deferred.ofValue,invoke,dk,dO,dL];exact⟨vs,x,w,w,hx,d8,rfl,h,ha⟩
 . trivial
def Gi(h:bT g U w){xt t:TypeId}{ok:Bool}(hx:aB g x v) :
 aW.Fits C g U (zV C.P x t ok) ((do let r <- Instr.typeAssert v xt t ok;pure (Next.value r):Sem Next).run C.P w):=by
 have key:∀{z:AV},Eh C.P t=some z->∃d i vz,C.P.underlying t=some d/\(∀ms,d≠.interface ms)/\C.P.info? t=some i/\i.zero=some vz/\aB g z vz:=λ{z}hz=>by
  unfold Eh at hz;split at hz
  . cases hz
  . rename_i d hn hd;unfold zeroV at hz;cases hi:C.P.info? t with
    | none=>simp[hi]at hz
    | some i =>
      cases rh:i.zero with
      | none=>simp[hi,rh]at hz
      | some vz=>simp[hi,rh]at hz;exact⟨d,i,vz,hd,λms e=>hn ms e,rfl,rh,by rw[<-hz];exact Ia vz⟩
  . cases hz
 unfold zV;split
 . rename_i z u y hz;obtain⟨d,i,vz,hd,hn,hi,rh,Us⟩:=key hz;simp only[aB]at hx;obtain⟨q,rfl,hq⟩:=hx;have jY:(Instr.typeAssert (.iface u q) xt t ok).run C.P w=(if u=t then .ok (if ok then .tuple #[q,.bool true] else q) w else if ok then .ok (.tuple #[vz,.bool false]) w else (Instr.typeAssert (.iface u q) xt t ok).run C.P w):=by
    by_cases hu:u=t
    . rw[if_pos hu];cases d<;>first
       | exact absurd rfl (hn _)
       | (cases ok<;>simp[Instr.typeAssert,run_underlying hd,hu])
    . rw[if_neg hu];cases ok
      . rfl
      . cases d<;>first
         | exact absurd rfl (hn _)
         | simp[Instr.typeAssert,run_underlying hd,hu,jL hi rh]
   split
   . rename_i hu;rw[dk,jY,if_pos hu];refine bQ h ?_;cases ok
     . exact hq
     . simp only[if_true,aB,aJ];exact⟨_,rfl,_,_,rfl,hq,_,_,rfl,rfl,rfl⟩
   . rename_i hu;split
     . rename_i dG;rw[dk,jY,if_neg hu,if_pos dG];exact bQ h (by simp only[aB,aJ];exact⟨_,rfl,_,_,rfl,Us,_,_,rfl,rfl,rfl⟩)
     . trivial
 . rename_i z hz;obtain⟨d,i,vz,hd,hn,hi,rh,Us⟩:=key hz;simp only[aB]at hx;subst hx;split
   . rename_i dG;subst dG;have jY:(Instr.typeAssert .nilIface xt t true).run C.P w=.ok (.tuple #[vz,.bool false]) w:=by
      cases d<;>first
       | exact absurd rfl (hn _)
       | simp[Instr.typeAssert,run_underlying hd,jL hi rh]
     rw[dk,jY];exact bQ h (by simp only[aB,aJ];exact⟨_,rfl,_,_,rfl,Us,_,_,rfl,rfl,rfl⟩)
   . trivial
 . trivial
def Hi(h:bT g U w){t:TypeId}{mu:Bool}{l c:AV}{vl vc:Value}(hl:aB g l vl)(hc:aB g c vc) :
 aW.Fits C g U (xk C.P t mu l c) ((do let x <- Instr.makeSlice t vl vc;pure (Next.value x):Sem Next).run C.P w):=by
 unfold xk;split
 . rename_i e sz kl l kc c hs;split
   . rename_i z hz;rintro⟨h0,rfl,h1⟩;obtain⟨i,zv,hu,hi,rh,AD,gj,tc,hb,_⟩:=kU hs;obtain⟨i',zv',mE,JH,hm⟩:=pY hz;rw[hi]at mE;cases mE;rw[rh]at JH;cases JH;obtain⟨h2,h3⟩:=gx (g:=g) hm;simp only[aB]at hl hc;subst hl hc;have agu:(i.bytes:Int)*l<=281474976710656:=by
      have e1:(i.bytes:Int)*l<=32768*l:=Int.mul_le_mul_of_nonneg_right d6 h0;omega
     have jY:=run_make (P:=C.P) w t e i zv hu hi rh kl kc l l h0 (Int.le_refl _) agu d6;have Db:=xx (g:=g) h2 l.toNat;have hmc:madeCells zv.cells (l.toNat*i.size)=(Array.range (l.toNat*zv.cells.size)).map (zv.cells[·%zv.cells.size]!):=by rw[gj,<-AD];rfl
     have zF:∀u∈(madeCells zv.cells (l.toNat*i.size)).toList,u.oneCell':=λu hu=>by
      rw[hmc]at hu;simp only[Array.toList_map,List.mem_map]at hu;obtain⟨j,_,rfl⟩:=hu;have aA:j%zv.cells.size<zv.cells.size:=Nat.mod_lt _ d6;rw[getElem!_pos zv.cells _ aA];exact h3 _ d8
     rw[<-hmc]at Db;have hlen:(madeCells zv.cells (l.toNat*i.size)).toList.length=l.toNat*sz:=by rw[hmc];simp[AD]
     have MB:z.length=sz:=by have:=h2.length;simp at this;omega
     simp only[dk,jY,dL,dO];cases mu
     . have:=sB (C:=C) (del:=none) (e:=e) (sz:=sz) (n:=l.toNat) (c:=l.toNat) h (vs:=(madeCells zv.cells (l.toNat*i.size)).toList) (rest:=[]) Db zF d8 (by rw[oq,MB]) (by simpa using hlen) (da _) (by unfold maxLen;omega);simpa using this
     . have:=tV (C:=C) (del:=none) (e:=e) (sz:=sz) (n:=l.toNat) (c:=l.toNat) h (vs:=(madeCells zv.cells (l.toNat*i.size)).toList) (rest:=[]) Db zF d8 (by simpa using hlen) (da _) (by unfold maxLen;omega);simpa using this
   . trivial
 . trivial
def Oo(h:bT g U w){t ty:TypeId}(hx:aB g x v) :
 aW.Fits C g U (CU C.P t x U) ((do let r <- Builtin.clear_ #[t] ty #[v];pure (Next.value r):Sem Next).run C.P w):=by
 unfold CU;split
 . rename_i e sz b off n lx e' hs;split
   . rename_i l z hb hz;rintro⟨rfl,h1⟩;obtain⟨i,zv,hu,hi,rh,AD,gj,tc,_⟩:=kU hs;obtain⟨i',zv',mE,JH,hm⟩:=pY hz;rw[hi]at mE;cases mE;rw[rh]at JH;cases JH;obtain⟨h2,h3⟩:=gx (g:=g) hm;simp only[aB]at hx;obtain⟨y,c,hy,rfl,_⟩:=hx;have MB:z.length=lx:=by have:=h2.length;simp at this;omega
     have Db:=xx (g:=g) h2 n;have hzc:Builtin.zeroCells zv.cells n=(Array.range (n*zv.cells.size)).map (zv.cells[·%zv.cells.size]!):=rfl;obtain⟨w',ji,fj⟩:=AY (C:=C) (off:=off) h hb hy Db (oZ h3 n d6) (by rw[oq,MB];exact h1);rw[<-hzc]at ji
     by_cases hn:n=0
     . subst hn;have e0:U.c7 b (ax l off (bZ 0 z))=U.c7 b l:=by simp[ax,bZ]
       simp only[Builtin.clear_,dk,dO,dL];simp[run_underlying hu];refine⟨_,w,g,.inl rfl,Gh.Le.refl g,?_,by simp only[aB];exact⟨[],rfl,by simp[aJ]⟩⟩;show bT g (U.c7 b (ax l off (bZ 0 z))) w;rw[e0];exact h.aiJ hb
     . have hz2:=jL (P:=C.P) hi rh w;have agw:(Builtin.clear_ #[t] ty #[.slice (some ⟨y.aR,off,none⟩) n c]).run C.P w=.ok (.tuple #[]) w':=by
        simp[Builtin.clear_,run_underlying hu,hz2,ji,hn]
       simp only[dk,agw,dL,dO];exact⟨_,w',g,.inl rfl,Gh.Le.refl g,fj,by simp only[aB];exact⟨[],rfl,by simp[aJ]⟩⟩
   . trivial
 . trivial
def Fx:∀{ks vs:List AV},ks.length=vs.length->(ks.zip vs).map (·.1)=ks
 | [],[],_=>rfl
 | [],_::_,h=>by simp at h
 | _::_,[],h=>by simp at h
 | k::ks,v::vs,h=>by simp only[List.zip_cons_cons,fh];rw[Fx (by simpa using h)]
def Fy:∀{ks vs:List AV},ks.length=vs.length->(ks.zip vs).map (·.2)=vs
 | [],[],_=>rfl
 | [],_::_,h=>by simp at h
 | _::_,[],h=>by simp at h
 | k::ks,v::vs,h=>by simp only[List.zip_cons_cons,fh];rw[Fy (by simpa using h)]
def OU(h:bT g U w){m:AV}(hm:aB g m v):aW.Fits C g U (No C.P t m) ((do let x <- Instr.range t v;pure (Next.value x):Sem Next).run C.P w):=by
 unfold No;split
 . rename_i p ks vs ht;obtain⟨fk,e⟩:=p;obtain⟨kt,hu,_⟩:=Ds ht;simp only[aB]at hm;obtain⟨r,es,clock,l,rfl,hr,hp,hs,h1,h2⟩:=hm;obtain⟨q1,q2⟩:=h.cY r es clock hr;have hlen:ks.length=vs.length:=by
    have a:=h1.length;have b:=h2.length;simp at a b;omega
   have wC:(getObj r).run C.P w=.ok (.map es clock) w:=by simp[getObj,Sem.run,q1]
   obtain⟨b,g',f1,f2,f3,f4⟩:=h.yk (.mapIter (some r) clock #[] clock) 0 0 (.iter (ks.zip vs) none) λg' hle hi Uc =>
    ⟨r,es,clock,#[],heap_alloc_new w _,hle.cY _ _ hr,⟨l,by
      have:(es.toList.filter λe=>!(#[]:Array Nat).contains e.born)=es.toList:=by simp
      rw[this];exact hp,by rw[Fx hlen];exact h1.mono hle,by rw[Fy hlen];exact h2.mono hle⟩,trivial⟩
   simp only[Instr.range,dk,run_underlying hu,dL,wC,dO,run_newObj];exact⟨_,_,g',b,rfl,f1,f2,f4,by simp only[NV.at,aB];exact⟨_,f3,rfl⟩⟩
 . trivial
def J9:∀{l:List (AV×AV)}{i:Nat}{x:AV×AV},l[i]?=some x->(x,l.eraseIdx i)∈xm l
 | [],i,x,h=>by simp at h
 | y::l,0,x,h=>by simp at h;subst h;simp[xm]
 | y::l,i+1,x,h=>by
   simp only[List.getElem?_cons_succ]at h;simp only[xm,List.eraseIdx_cons_succ,dy,List.mem_map];exact .inr ⟨_,J9 h,rfl⟩
def aJ.eraseIdx:∀{l:List AV}{vs:List Value}(i:Nat),aJ g l vs->aJ g (l.eraseIdx i) (vs.eraseIdx i)
 | [],_,_,h=>by simp only[aJ]at h;subst h;simp[aJ]
 | y::ys,_,0,h=>by
   simp only[aJ]at h;obtain⟨v,vs,rfl,h1,h2⟩:=h;simpa using h2
 | y::ys,_,i+1,h=>by
   simp only[aJ]at h;obtain⟨v,vs,rfl,h1,h2⟩:=h;simp only[List.eraseIdx_cons_succ,aJ];exact⟨v,_,rfl,h1,aJ.eraseIdx i h2⟩
def qf{α β:Type}(f:α->β):∀(l:List α)(i:Nat),(l.eraseIdx i).map f=(l.map f).eraseIdx i
 | [],i=>by simp
 | x::l,0=>by simp
 | x::l,i+1=>by simp[qf f l i]
def KN{α:Type}{l m:List α}(h:l.Perm m){i:Nat}{e:α}(hi:l[i]?=some e)(hj:m[j]?=some e):(l.eraseIdx i).Perm (m.eraseIdx j):=by
 obtain⟨h1,h2⟩:=dw.1 hi;obtain⟨h3,h4⟩:=dw.1 hj;have el:l=l.take i++e::l.drop (i+1):=by
  conv=>lhs;rw[<-List.take_append_drop i l,gI h1,h2]
 have em:m=m.take j++e::m.drop (j+1):=by
  conv=>lhs;rw[<-List.take_append_drop j m,gI h3,h4]
 have hp:(l.take i++e::l.drop (i+1)).Perm (m.take j++e::m.drop (j+1)):=by rw[<-el,<-em];exact h
 have h5:=(List.perm_middle.symm.trans hp).trans List.perm_middle;rw[List.eraseIdx_eq_take_drop_succ,List.eraseIdx_eq_take_drop_succ];exact List.Perm.cons_inv h5
def Oz{es:List MapEntry}(hn:(es.map (·.born)).Nodup){seen:Array Nat}{e:MapEntry}(hj:(es.filter λx=>!seen.contains x.born)[j]?=some e) :
 (es.filter λx=>!(seen.push e.born).contains x.born)=(es.filter λx=>!seen.contains x.born).eraseIdx j:=by
 have e1:(es.filter λx=>!(seen.push e.born).contains x.born)=(es.filter λx=>!seen.contains x.born).filter λx=>x.born != e.born:=by
  rw[List.filter_filter];apply List.filter_congr;intro x _;simp only[Array.contains_push,Bool.not_or];rw[Bool.and_comm];congr 1
 rw[e1];have wR:((es.filter λx=>!seen.contains x.born).map (·.born)).Nodup:=List.Nodup.sublist (List.Sublist.map _ List.filter_sublist) hn;generalize (es.filter λx=>!seen.contains x.born)=l at hj wR;clear e1 hn es
 induction l generalizing j with
 | nil=>simp at hj
 | cons y l ih =>
   simp only[fh,List.nodup_cons]at wR;cases j with
   | zero =>
     simp at hj;subst hj;simp only[List.filter_cons,bne_self_eq_false,bW,if_false,List.eraseIdx_zero,List.tail_cons];rw[List.filter_eq_self];intro x hx;simp only[bne_iff_ne,ne_eq];intro he;exact wR.1 (he▸List.mem_map_of_mem hx)
   | succ j =>
     simp only[List.getElem?_cons_succ]at hj;have cD:y.born≠e.born:=λhe=>wR.1 (he▸List.mem_map_of_mem (fT hj));simp only[List.filter_cons,bne_iff_ne,ne_eq,cD,not_false_eq_true,if_true,List.eraseIdx_cons_succ];rw[ih hj wR.2]
def R8(h:bT g U w){i:AV}(hi:aB g i v):aW.Fits C g U (vM i U) ((do let x <- Instr.next v false ty;pure (Next.value x):Sem Next).run C.P w):=by
 unfold vM;split
 . rename_i o;simp only[aB]at hi;obtain⟨p,hp,rfl⟩:=hi;split
   . rename_i cur hit;obtain⟨p',k1,k2,m,es,clock,seen,k3,k4,⟨l,k5,k6,k7⟩,k8⟩:=h.live o _ (St.BD.1 hit);rw[hp]at k1;cases k1;obtain⟨q1,q2⟩:=h.cY m es clock k4;simp only[mq,aJ,List.map_eq_nil_iff]at k6;subst k6;have Ik:=k5.symm.eq_nil;have xW:(getObj p.aR).run C.P w=.ok (.mapIter (some m) clock seen clock) w:=by simp[getObj,Sem.run,k3]
     have Jt:(getObj m).run C.P w=.ok (.map es clock) w:=by simp[getObj,Sem.run,q1]
     have Ru:(!seen.isEmpty&&!es.isEmpty&&es.all (λe=>decide (e.born>=clock)))=false:=by
      cases he:es.isEmpty
      . have:es.all (λe=>decide (e.born>=clock))=false:=by
         rw[Array.all_eq_false];have h0:0<es.size:=by
          rcases Nat.eq_zero_or_pos es.size with h0|h0
          . simp[Array.isEmpty,h0]at he
          . exact h0
         refine⟨0,h0,?_⟩;have:=q2.2 es[0] d8;simp;omega
        simp[this]
      . simp
     have aij:(es.filter λe=>!seen.contains e.born)=#[]:=by
      apply Array.ext';simpa using Ik
     simp only[Instr.next,dk,xW,dL,Jt,Ru,hX,bW,if_false,dO,aij]
     have e2:(#[]:Array MapEntry).filter (λe=>decide (e.born<clock))=#[]:=by simp
     have e3:(#[]:Array MapEntry).filter (λe=>decide (e.born>=clock))=#[]:=by simp
     simp[choose,Sem.run,Question.forced,Result.andThen];exact bQ h (by simp only[aB,aJ];exact⟨[.bool false],rfl,_,_,rfl,rfl,rfl⟩)
   . rename_i x xs cur hit;obtain⟨p',k1,k2,m,es,clock,seen,k3,k4,⟨l,k5,k6,k7⟩,k8⟩:=h.live o _ (St.BD.1 hit);rw[hp]at k1;cases k1;obtain⟨q1,q2⟩:=h.cY m es clock k4;have xW:(getObj p.aR).run C.P w=.ok (.mapIter (some m) clock seen clock) w:=by simp[getObj,Sem.run,k3]
     have Ru:(!seen.isEmpty&&!es.isEmpty&&es.all (λe=>decide (e.born>=clock)))=false:=by
      cases he:es.isEmpty
      . have:es.all (λe=>decide (e.born>=clock))=false:=by
         rw[Array.all_eq_false];have h0:0<es.size:=by
          rcases Nat.eq_zero_or_pos es.size with h0|h0
          . simp[Array.isEmpty,h0]at he
          . exact h0
         refine⟨0,h0,?_⟩;have:=q2.2 es[0] d8;simp;omega
        simp[this]
      . simp
     generalize hL:(es.filter λe=>!seen.contains e.born)=L;have PB:(es.toList.filter λe=>!seen.contains e.born)=L.toList:=by rw[<-hL];simp
     rw[PB]at k5;have pK:∀e∈L.toList,e∈es.toList:=λe he=>by rw[<-PB]at he;exact (List.mem_filter.1 he).1
     have hlen:l.length=xs.length+1:=by have:=k6.length;simpa using this
     have L6:L.size=xs.length+1:=by rw[<-hlen,k5.length_eq];simp
     have hold:L.filter (λe=>decide (e.born<clock))=L:=by
      apply Array.ext';rw[Array.toList_filter,List.filter_eq_self];intro e he;have:=q2.2 e (pK e he);simpa using this
     have tb:L.filter (λe=>decide (e.born>=clock))=#[]:=by
      apply Array.ext';rw[Array.toList_filter];apply List.filter_eq_nil_iff.2;intro e he;have:=q2.2 e (pK e he);simp;omega
     have hem:L.isEmpty=false:=by simp[Array.isEmpty,L6]
     have key:∀(w1:World)(c:Nat),w1.heap=w.heap->w1.os=w.os->w1.tape=w.tape->w1.output=w.output->c<L.size ->
      ∀e,L[c]?=some e->∃u w' g' v x',(setObj p.aR (.mapIter (some m) clock (seen.push e.born) clock)).run C.P w1=.ok () w'/\u=Value.tuple #[.bool true,e.key,e.val] /\
       (v,x')∈(xm (x::xs)).map (λp=>(AV.az [.bool true,p.1.1,p.1.2],Live.iter p.2 (some p.1)))/\Gh.Le g g'/\bT g' (U.set o x') w'/\aB g' v u:=λw1 c e1 e2 e3 e4 hc e he=>by
      have n6:L.toList[c]?=some e:=by rw[nO];exact he
      obtain⟨a,ha⟩:=List.getElem?_of_mem (k5.mem_iff.2 (fT n6));have Jp:a<(x::xs).length:=by
       have:=(dw.1 ha).1;rw[hlen]at this;simpa using this
      have PX:(x::xs)[a]?=some ((x::xs)[a]):=mP Jp;generalize (x::xs)[a]=kv at PX;obtain⟨vk,cE,ox⟩:=k6.get (i:=a) (x:=kv.1) (by rw[po,PX];rfl);obtain⟨vv,hvv,iN⟩:=k7.get (i:=a) (x:=kv.2) (by rw[po,PX];rfl);rw[po,ha]at cE hvv;simp at cE hvv;subst cE hvv;have Bt:(setObj p.aR (.mapIter (some m) clock (seen.push e.born) clock)).run C.P w1=.ok () { w1 with heap:=w1.heap.setIfInBounds p.aR (.mapIter (some m) clock (seen.push e.born) clock) }:=by
       simp[setObj,Sem.run,e1,k3]
      have aA:=(nN.1 k3).1;refine⟨_,_,g,_,_,Bt,rfl,List.mem_map.2 ⟨_,J9 PX,rfl⟩,Gh.Le.refl g,?_,?_⟩
      . refine h.rewrite (St.BD.1 hit) hp ⟨e2,e3,e4,by simp[e1]⟩ (λk hk _=>by simp only[e1];exact Array.getElem?_setIfInBounds_ne (Ne.symm hk)) (λo=>?_) ?_ ?_
        . cases ei:g.du p.aR o with
          | none=>rfl
          | some u=>have:=(h.du _ _ _ ei).1;simp[World.cell?,k3]at this
        . cases ei:g.cY p.aR with
          | none=>rfl
          | some u=>have:=(h.cY _ _ _ ei).1;rw[k3]at this;cases this
        . refine⟨m,es,clock,seen.push e.born,by simp[e1,aA],k4,⟨l.eraseIdx a,?_,?_,?_⟩,e,?_,d8,ox,iN⟩
          . have EX:(es.toList.filter λe=>!seen.contains e.born)[c]?=some e:=by rw[PB];exact n6
            rw[Oz q2.1 EX,PB];exact KN k5 ha n6
          . rw[qf,qf];exact k6.eraseIdx a
          . rw[qf,qf];exact k7.eraseIdx a
          . exact pK e (fT n6)
      . simp only[aB,aJ];exact⟨_,rfl,_,_,rfl,rfl,_,_,rfl,ox,_,_,rfl,iN,rfl⟩
     have Mo:∀(n:Nat)(w1:World),(choose (.mapNext L.size)).run C.P w=.ok n w1->w1.heap=w.heap->w1.os=w.os->w1.tape=w.tape->w1.output=w.output->n<L.size ->
      aW.Fits C g U (.ov o ((xm (x::xs)).map λp=>(.az [.bool true,p.1.1,p.1.2],.iter p.2 (some p.1)))) ((do let x <- Instr.next (.pointer (some ⟨p.aR,0,none⟩)) false ty;pure (Next.value x):Sem Next).run C.P w):=λn w1 hch e1 e2 e3 e4 hn=>by
      have Jt:(getObj m).run C.P w=.ok (.map es clock) w:=by simp[getObj,Sem.run,q1]
      have hLn:L[n]?=some L[n]:=by simp[hn]
      generalize L[n]=e at hLn;obtain⟨u,w',g',v,x',r1,r2,r3,r4,r5,r6⟩:=key w1 n e1 e2 e3 e4 hn e hLn;have aib:((#[]:Array (Option MapEntry))++(L++#[]).map some).size=L.size:=by simp
      have hcn:((#[]:Array (Option MapEntry))++(L++#[]).map some)[n]?=some (some e):=by simp[hLn]
      simp only[Instr.next,dk,xW,dL,Jt,Ru,hX,bW,if_false,dO,hL,hold,tb,hem,aib,hch,hcn,r1]
      exact⟨_,w',g',v,x',rfl,r3,r4,r5,by rw[<-r2];exact r6⟩
     by_cases hf:L.size<=1
     . refine Mo 0 w ?_ rfl rfl rfl rfl d6;simp[choose,Sem.run,Question.forced,hf]
     . refine Mo (w.tape w.drawn (.mapNext L.size)%L.size) w.drew ?_ rfl rfl rfl rfl (Nat.mod_lt _ d6);have hfq:Question.forced (.mapNext L.size)=false:=by simp only[Question.forced,decide_eq_false_iff_not];exact hf
       simp only[choose,Sem.run,hfq,bW,if_false,Question.cut];rfl
   . trivial
 . trivial
def Ot(h:bT g U w){i:AV}(hi:aB g i v):aW.Fits C g U (o9 i U) ((do let x <- Instr.entry v;pure (Next.value x):Sem Next).run C.P w):=by
 unfold o9;split
 . rename_i o;simp only[aB]at hi;obtain⟨p,hp,rfl⟩:=hi;split
   . rename_i rest kv hit;obtain⟨p',k1,k2,m,es,clock,seen,k3,k4,_,e,k5,k6,k7,k8⟩:=h.live o _ (St.BD.1 hit);rw[hp]at k1;cases k1;obtain⟨q1,q2⟩:=h.cY m es clock k4;have xW:(getObj p.aR).run C.P w=.ok (.mapIter (some m) clock seen clock) w:=by simp[getObj,Sem.run,k3]
     have Jt:(getObj m).run C.P w=.ok (.map es clock) w:=by simp[getObj,Sem.run,q1]
     have Ry:es.find? (λx=>x.born==e.born)=some e:=by
      rw[<-Array.find?_toList];have hn:=q2.1;generalize es.toList=l at k5 hn
      induction l with
      | nil=>simp at k5
      | cons y l ih =>
        simp only[fh,List.nodup_cons]at hn;rw[List.find?_cons];rcases dy.1 k5 with rfl|hm
        . simp
        . have:(y.born==e.born)=false:=by
           simp only[beq_eq_false_iff_ne,ne_eq];intro he;exact hn.1 (he▸List.mem_map_of_mem hm)
          rw[this];exact ih hm hn.2
     simp only[Instr.entry,dk,xW,dL,k6,Jt,bne_self_eq_false,bW,if_false,hX,dO,Ry];exact bQ h (by simp only[aB,aJ];exact⟨_,rfl,_,_,rfl,k7,_,_,rfl,k8,rfl⟩)
   . trivial
 . trivial
def ER(hG:kz C g)(hr:jO g ρ a.tmps)(parts:Array (Nat×Operand)) :
 (parts.map λ(i,x)=>(i,a.eval x)).size=(pa C ρ parts).length/\∀(i:Nat)(p:Nat×AV)(q:Nat×Value),(pa C ρ parts)[i]?=some p->(parts.map λ(i,x)=>(i,a.eval x))[i]?=some q->p.1=q.1/\aB g p.2 q.2:=by
 refine⟨by simp[pa],λi p q h1 h2=>?_⟩;simp only[pa,po,nO,so]at h1;obtain⟨y,hy,rfl⟩:=h1;simp only[Array.getElem?_map,hy,Option.map_some,kP]at h2;subst h2;exact⟨rfl,xQ hG hr _⟩
def Qq(hG:kz C g)(hr:jO g ρ a.tmps)(x:Option Operand):match x.map (ρ.ev C),x.map a.eval with|none,none=>True|some x,some u=>aB g x u|_,_=>False:=by
 cases x with
 | none=>trivial
 | some x=>exact xQ hG hr x
def Hx{w:World}{u ty:TypeId}{z:Value}{k k':IntKind}(ht:P.underlying t=some (.slice e))(hu:P.underlying u=some (.int k'))(hi:P.info? e=some i)(hz:i.zero=some z)(GR:i.bytes<=32768)(hp:0<i.size)
 {n:Nat} (h0:0<n) (hn:n<=65536) :
 (Builtin.append_ #[t,u] ty #[.slice none 0 0,.int k (n:Int)]).run P w =
   .ok (.slice (some ⟨w.heap.size,0,none⟩) n (grownCap w n 0 e))
    (w.drew.alloc (.cells (Builtin.zeroCells z.cells n++Builtin.zeroCells z.cells (grownCap w n 0 e-n)) e)):=by
 have aiv:IntKind.i64.wrap (n:Int)=n:=Cg ⟨d6,d6⟩;have aaT:¬ (9223372036854775807<(n:Int)):=by omega
 have iq:n*i.bytes<=140737488355328:=Nat.le_trans (Nat.mul_le_mul hn GR) d6;have Jm:=growslice_fits (old:=0) (need:=n) (bytes:=i.bytes) d6 iq;have aaS:¬ (281474976710656<Builtin.nextslicecap n 0*i.bytes):=by omega
 have kF:¬ ((281474976710656:Int)<(n:Int)*(i.bytes:Int)):=by
  have:(n:Int)*(i.bytes:Int)=((n*i.bytes:Nat):Int):=by simp
  omega
 have G2:¬ (n=0\/i.size=0):=by omega
 have ajN:¬ ((n:Int)<0):=by omega
 simp[Builtin.append_,run_underlying ht,run_underlying hu,sizeOf,typeInfo,zeroValue,hi,hz,aiv,aaT,aaS,kF,G2,ajN,Question.forced,newRow,grownCap,asInt,asIntOf,Builtin.firstCells];have e1:n≠0:=by omega
 have e2:n*i.size≠0:=Nat.mul_ne_zero e1 d6;rw[if_neg e1,if_neg e2]
def Rr{u:TypeId}{q:TypeId×Nat×List AV}(h:GM P t u=some q):∃k,P.underlying u=some (.int k)/\ig P t=some (q.1,q.2.1)/\s8 P q.1=some q.2.2:=by
 unfold GM at h;split at h
 . rename_i k hu;split at h
   . rename_i e sz hs;split at h
     . rename_i z hz;cases h;exact⟨k,hu,hs,hz⟩
     . cases h
   . cases h
 . cases h
def Rq(h:bT g U w){u ty:TypeId}{mu:Bool}{q:TypeId×Nat×List AV}(hq:GM C.P t u=some q){s:AV}{v2:Value}(hs:aB g s v)(hy:aB g y v2) :
 aW.Fits C g U (KW q mu s y) ((do let r <- Builtin.append_ #[t,u] ty #[v,v2];pure (Next.value r):Sem Next).run C.P w):=by
 obtain⟨k',hu,p8,hz⟩:=Rr hq;unfold KW;split
 . rename_i k n;rintro⟨h0,h1⟩;obtain⟨i,zv,ht,hi,rh,AD,gj,tc,GR,hz1⟩:=kU p8;obtain⟨i',zv',mE,JH,hm⟩:=pY hz;rw[hi]at mE;cases mE;rw[rh]at JH;cases JH;obtain⟨h2,h3⟩:=gx (g:=g) hm;simp only[aB]at hs hy;subst hs hy;obtain⟨m,rfl⟩:∃m:Nat,n=m:=⟨n.toNat,d6⟩;simp only[ez];have gL:=grownCap_ge w m 0 q.1;have hle:=grownCap_le_maxLen w m 0 q.1 (by unfold maxLen;omega);rw[dk,Hx (k:=k) ht hu hi rh GR d6 d6 d6];have fj:=h.grow (nF w);have Db:=xx (g:=g) h2 m;have MB:q.2.2.length=i.size:=by have:=h2.length;simp at this;omega
   have zF:=oZ h3 m d6;have ade:=oZ h3 (grownCap w m 0 q.1-m) d6;have hlen:(Builtin.zeroCells zv.cells m).toList.length+(Builtin.zeroCells zv.cells (grownCap w m 0 q.1-m)).toList.length=grownCap w m 0 q.1*q.2.1:=by
    rw[wH,wH,size_zeroCells,size_zeroCells,AD,<-Nat.add_mul,<-gj];congr 1;omega
   have ew:Builtin.zeroCells zv.cells m++Builtin.zeroCells zv.cells (grownCap w m 0 q.1-m)=((Builtin.zeroCells zv.cells m).toList++(Builtin.zeroCells zv.cells (grownCap w m 0 q.1-m)).toList).toArray:=by simp
   rw[ew];simp only[dL,dO];cases mu
   . exact sB fj Db zF ade (by rw[oq,MB,gj]) hlen gL hle
   . exact tV fj Db zF ade hlen gL hle
 . trivial
def Tj(h:bT g U w){t ty:TypeId}(hx:aB g x v) :
 aW.Fits C g U (Lz (ig C.P t) x) ((do let r <- Builtin.cap_ #[t] ty #[v];pure (Next.value r):Sem Next).run C.P w):=by
 unfold Lz;split
 . rename_i q hq;obtain⟨e,sz⟩:=q;obtain⟨i,z,ht,_⟩:=kU hq;simp only[aB]at hx;subst hx;have:(Builtin.cap_ #[t] ty #[.slice none 0 0]).run C.P w=.ok (.int .i64 0) w:=by simp[Builtin.cap_,run_underlying ht];rfl
   rw[dk,this];exact bQ h (by simp only[aB])
 . trivial
def Ls(h:bT g U w){t u ty:TypeId}{mu:Bool}{s:AV}{v2:Value}(hs:aB g s v)(hy:aB g y v2) :
 aW.Fits C g U (Eg C.P t u mu s y U) ((do let r <- Builtin.append_ #[t,u] ty #[v,v2];pure (Next.value r):Sem Next).run C.P w):=by
 unfold Eg;split
 . rename_i q hq;exact Rq h hq hs hy
 . exact Lr h hs hy
def Q6(h:bT g U w)(hG:kz C g)(hr:jO g ρ a.tmps)(mu:Bool)(c:Call)(ty:TypeId) :
 aW.Fits C g U (Ek C mu c ρ U) ((do let d <- resolve a.eval c ty;invoke d.target d.args:Sem Next).run C.P w):=by
 obtain⟨callee,⟨args⟩,⟨argTypes⟩⟩:=c;have e:=λx=>xQ hG hr x;have fin:aW.Fits C g U (match callee,argTypes,args with
  | .value f,_,args=>kQ C.P (ρ.ev C f) (args.map (ρ.ev C))
  | .builtin .len,[t],[x]=>MQ C.P t (ρ.ev C x) U
  | .builtin .append,[t,u],[s,y]=>Eg C.P t u mu (ρ.ev C s) (ρ.ev C y) U
  | .builtin .cap,[t],[x]=>Lz (ig C.P t) (ρ.ev C x)
  | .builtin .min,_,[x,y]=>zM (ρ.ev C x) (ρ.ev C y)
  | .builtin .max,_,[x,y]=>FR (ρ.ev C x) (ρ.ev C y)
  | .builtin .clear,[t],[x]=>CU C.P t (ρ.ev C x) U
  | _,_,_=>.bad) ((do let d <- resolve a.eval ⟨callee,⟨args⟩,⟨argTypes⟩⟩ ty;invoke d.target d.args:Sem Next).run C.P w):=by
  split
  . rename_i f;have:=aaL (C:=C) h (e f) (Em hG hr args);have e2:(args.map a.eval).toArray=(⟨args⟩:Array Operand).map a.eval:=by simp
    rw[e2]at this;exact this
  . rename_i t x;have:=UL (C:=C) (ty:=ty) h (t:=t) (e x);simpa only[resolve,invoke,builtin,dk,dO,dL,List.map_toArray,fh,mq] using this
  . rename_i t u s y;have:=Ls (C:=C) (ty:=ty) (mu:=mu) h (t:=t) (u:=u) (e s) (e y);simpa only[resolve,invoke,builtin,dk,dO,dL,List.map_toArray,fh,mq] using this
  . rename_i t x;have:=Tj (C:=C) (ty:=ty) h (t:=t) (e x);simpa only[resolve,invoke,builtin,dk,dO,dL,List.map_toArray,fh,mq] using this
  . rename_i x y;have:=US (C:=C) (ty:=ty) (ts:=⟨argTypes⟩) h (e x) (e y);simpa only[resolve,invoke,builtin,dk,dO,dL,List.map_toArray,fh,mq] using this
  . rename_i x y;have:=UR (C:=C) (ty:=ty) (ts:=⟨argTypes⟩) h (e x) (e y);simpa only[resolve,invoke,builtin,dk,dO,dL,List.map_toArray,fh,mq] using this
  . rename_i t x;have:=Oo (C:=C) (ty:=ty) h (t:=t) (e x);simpa only[resolve,invoke,builtin,dk,dO,dL,List.map_toArray,fh,mq] using this
  . trivial
 exact fin
def abt(h:bT g U w)(hG:kz C g)(hr:jO g ρ a.tmps)(mu:Bool)(o:Oper):aW.Fits C g U (mj C mu o.op ρ U) ((execOp a.eval o).run C.P w):=by
 have e:=λx=>xQ hG hr x;obtain⟨dst,op,type,pos,after,guard⟩:=o;unfold mj;dsimp only;split
 . exact bQ h (e _)
 . exact bQ h (e _)
 . rename_i c x y;unfold fP;split
   . rename_i t ht;have hc:=e c;rw[ht]at hc;simp only[aB]at hc;simp only[execOp,hc,asBool,dk,dO,dL];refine bQ h ?_;cases t
     . exact e _
     . exact e _
   . trivial
 . exact Of h
 . exact Te h (e _)
 . obtain⟨h1,h2⟩:=ER hG hr ‹_›;exact Ol h h1 h2
 . obtain⟨h1,h2⟩:=ER hG hr ‹_›;exact FF h h1 h2
 . exact za h (e _) (e _) (e _)
 . exact za h (e _) (e _) (e _)
 . exact RZ h (e _)
 . exact O6 h (e _) (e _)
 . exact Iw h rfl (e _)
 . exact Tc h _ _ (e _) (e _)
 . exact acU h (e _)
 . exact Ra h (e _)
 . exact Hh h (e _)
 . rename_i fn first cap
   simp only[execOp,Instr.makeFunc,dk,dO,dL];refine bQ h ?_;simp only[aB];exact⟨first.toList.map a.eval,cap.toList.map a.eval,by congr 1<;>(apply Array.ext';simp),Em hG hr _,Em hG hr _⟩
 . simp only[execOp,Instr.makeMap,Option.map_none,dk,dO,dL,run_newObj];exact R7 h
 . exact O5 h (e _) (Qq hG hr _) (Qq hG hr _)
 . exact GD h (e _)
 . exact Ie h (e _)
 . exact G8 h (e _) (e _)
 . exact OC h (e _) (e _)
 . exact MU h (e _) (e _)
 . exact KJ h (e _) _
 . exact OO h (e _)
 . exact OU h (e _)
 . exact Gi h (e _)
 . exact Hi h (e _) (e _)
 . exact R8 h (e _)
 . exact Ot h (e _)
 . exact Q6 h hG hr mu _ _
 . trivial
end
abbrev am:=AV->St->Prop
@[match_pattern] abbrev bv(x:Int):AV:=.int .i64 x
@[match_pattern] abbrev ce:AV:=.bool true
@[match_pattern] abbrev ci:AV:=.bool false
@[match_pattern] abbrev co(x:Int):AV:=.int .u8 x
abbrev d4:List AV:=[.int .u8 0,.str [],.int .i64 0]
abbrev d5:List AV:=[.int .u8 0,.str [],.int .i64 0,.int .i64 0,.int .i64 0,.int .i64 0]
end Go.Rip
