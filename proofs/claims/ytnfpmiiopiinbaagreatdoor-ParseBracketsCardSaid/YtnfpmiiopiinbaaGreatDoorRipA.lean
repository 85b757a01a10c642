/- Lemmas for the proof: no conditions. -/
import Derived.Test.YtnfpmiiopiinbaaGreatDoorRipZz
import Derived.RangeFuncIn
import Derived.Laws.AppendOwn
import Derived.Below
import Derived.Laws.StructEq
import Derived.Lib.ConvBytes
import Derived.RangeFuncLeaves
import Derived.RangeFuncCalls
import Derived.Laws.MakeOwn
set_option linter.unusedVariables false
set_option linter.unusedSimpArgs false
set_option linter.loopingSimpArgs false
namespace Go.Rip
open Go.RowKit
structure Tok where
 n:Nat
 e:TypeId
 size:Nat
 deriving DecidableEq
inductive mr where
 | full
 | own (τ:Nat)
 | iE
inductive AV where
 | bool (b:Bool)
 | int (k:IntKind) (n:Int)
 | str (s:List UInt8)
 | a8
 | ag
 | kx
 | eA
 | dE
 | box (b off:Nat)
 | da (l:List AV)
 | vec (n:Nat) (cap:mr) (l:List AV)
 | ms (b off n j9:Nat) (e:TypeId)
 | mp (m:Nat)
 | gJ (ks vs:List AV)
 | func (fn:Fn) (first captured:List AV)
 | iface (t:TypeId) (v:AV)
 | agg (l:List AV)
 | aK (l:List AV)
 | te (o:Nat)
 | it (o:Nat)
 | any
instance:Inhabited AV:=⟨.any⟩
structure Place where
 aL:Nat
 e:TypeId
 size:Nat
structure gm where
 ρ:Nat->AV
 nt:Nat
 params:Array Tmp
 assign:Code
 body:Code
 state:LoopState
 gL:Option Code
 tag:Nat
inductive Live where
 | box (l:List AV)
 | tok (t:Tok)
 | mp (ks vs:List AV)
 | loop (L:gm)
 | iter (rest:List (AV×AV)) (cur:Option (AV×AV))
 | uS (t:TypeId) (l:List AV)
structure Gh where
 base:Nat
 w0:World
 place:Nat->Option Place
 cJ:Nat->Nat->Option Value
 cu:Nat->Option (Array MapEntry×Nat)
 res:Nat->Bool
def Gh.box (g:Gh) (b:Nat):Option Place:=g.place b
def Gh.tok (g:Gh) (b:Nat):Option (Nat×Nat):=(g.place b).map λ p=>(p.aL,p.size)
def Gh.mp (g:Gh) (b:Nat):Option Nat:=(g.place b).map (·.aL)
theorem Gh.ml {g:Gh} {b:Nat} {x:Nat×Nat}:g.tok b=some x↔∃ p,g.place b=some p/\p.aL=x.1/\p.size=x.2:=by
 unfold Gh.tok;cases g.place b with
 | none=>simp
 | some p=>simp[Prod.ext_iff]
theorem Gh.re {g:Gh} {b:Nat} {x:Nat}:g.mp b=some x↔∃ p,g.place b=some p/\p.aL=x:=by
 unfold Gh.mp;cases g.place b with
 | none=>simp
 | some p=>simp
def mY (g:Gh) (aL off:Nat) (vs:List Value):Prop:=∀ i u,vs[i]?=some u->g.cJ aL (off+i)=some u
def wc (g:Gh) (cap:mr) (aL off n c:Nat):Prop :=
 match cap with
 | .full=>c=n
 | .own τ=>off=0/\g.tok τ=some (aL,c)
 | .iE=>True
def kP:AV->AV->Bool
 | .int k a,.int k' b=>decide (k=k')&&decide (a<b)
 | .str a,.str b=>decide (a<b)
 | _,_=>false
def qQ (ks:List AV):Prop:=ks.Pairwise (λ a b=>kP a b=true)
def mq (es:Array MapEntry) (clock:Nat):Prop:=(es.toList.map (·.born)).Nodup/\∀ e∈es.toList,e.born<clock
mutual
def aA (g:Gh):AV->Value->Prop
 | .bool b,v=>v=.bool b
 | .int k n,v=>v=.int k n
 | .str s,v=>v=.string ⟨s.toArray⟩
 | .a8,v=>v=.pointer none
 | .ag,v=>v=.slice none 0 0
 | .kx,v=>v=.map none
 | .eA,v=>v=.nilFunc
 | .dE,v=>v=.nilIface
 | .box b off,v=>∃ x,g.box b=some x/\v=.pointer (some ⟨x.aL,off,none⟩)
 | .da l,v=>∃ aL off vs,v=.pointer (some ⟨aL,off,none⟩)/\mY g aL off vs/\aH g l vs
 | .vec n cap l,v=>∃ aL off c vs,v=.slice (some ⟨aL,off,none⟩) n c/\n<=c/\c<=maxLen/\wc g cap aL off n c/\mY g aL off vs/\aH g l vs
 | .ms b off n j9 e,v=>∃ x c,g.box b=some x/\v=.slice (some ⟨x.aL,off,none⟩) n c/\n<=c/\c<=maxLen/\off+c*j9=x.size/\x.e=e
 | .mp m,v=>∃ r,g.mp m=some r/\v=.map (some r)
 | .gJ ks vs,v=>∃ r es clock,∃ l:List MapEntry,v=.map (some r)/\g.cu r=some (es,clock)/\l.Perm es.toList/\qQ ks/\aH g ks (l.map (·.key))/\aH g vs (l.map (·.val))
 | .func fn first captured,v=>∃ fs cs,v=.func fn (List.toArray fs) (List.toArray cs)/\aH g first fs/\aH g captured cs
 | .iface t x,v=>∃ u,v=.iface t u/\aA g x u
 | .agg l,v=>∃ vs,v=.agg (List.toArray vs)/\(∀ u∈vs,u.oneCell'=true)/\aH g l vs
 | .aK l,v=>∃ vs,v=.tuple (List.toArray vs)/\aH g l vs
 | .te o,v=>∃ x,g.place o=some x/\v=.func (.yield x.aL) #[] #[]
 | .it o,v=>∃ x,g.place o=some x/\v=.pointer (some ⟨x.aL,0,none⟩)
 | .any,_=>True
def aH (g:Gh):List AV->List Value->Prop
 | [],vs=>vs=[]
 | x::xs,vs=>∃ u us,vs=u::us/\aA g x u/\aH g xs us
end
structure Gh.Le (g g':Gh):Prop where
 base:g'.base=g.base
 w0:g'.w0=g.w0
 place:∀ b x,g.place b=some x->g'.place b=some x
 cJ:∀ b o x,g.cJ b o=some x->g'.cJ b o=some x
 cu:∀ b x,g.cu b=some x->g'.cu b=some x
 res:∀ b,g.res b=true->g'.res b=true
 A9:∀ b o,b<g.base->g'.cJ b o=g.cJ b o
 ye:∀ b,b<g.base->g'.cu b=g.cu b
theorem Gh.Le.refl (g:Gh):Gh.Le g g:=⟨rfl,rfl,λ _ _ h=>h,λ _ _ _ h=>h,λ _ _ h=>h,λ _ h=>h,λ _ _ _=>rfl,λ _ _=>rfl⟩
theorem Gh.Le.trans {a b c:Gh} (h:Gh.Le a b) (k:Gh.Le b c):Gh.Le a c :=
 ⟨k.base.trans h.base,k.w0.trans h.w0,λ _ _ x=>k.place _ _ (h.place _ _ x),λ _ _ _ x=>k.cJ _ _ _ (h.cJ _ _ _ x),λ _ _ x=>k.cu _ _ (h.cu _ _ x),λ _ x=>k.res _ (h.res _ x),
   λ q o hq=>(k.A9 q o (by rw[h.base]; exact hq)).trans (h.A9 q o hq),λ q hq=>(k.ye q (by rw[h.base]; exact hq)).trans (h.ye q hq)⟩
structure Gh.vq (g g':Gh):Prop where
 place:∀ b x,g.place b=some x->g'.place b=some x
 cJ:∀ b o x,g.cJ b o=some x->g'.cJ b o=some x
 cu:∀ b x,g.cu b=some x->g'.cu b=some x
theorem Gh.vq.tok {g g':Gh} (h:Gh.vq g g') {b:Nat} {x:Nat×Nat} (hb:g.tok b=some x):g'.tok b=some x:=by
 obtain⟨p,h1,h2,h3⟩:=Gh.ml.1 hb;exact Gh.ml.2 ⟨p,h.place _ _ h1,h2,h3⟩
theorem Gh.vq.mp {g g':Gh} (h:Gh.vq g g') {b x:Nat} (hb:g.mp b=some x):g'.mp b=some x:=by
 obtain⟨p,h1,h2⟩:=Gh.re.1 hb;exact Gh.re.2 ⟨p,h.place _ _ h1,h2⟩
theorem Gh.Le.r {g g':Gh} (h:Gh.Le g g'):Gh.vq g g':=⟨h.place,h.cJ,h.cu⟩
theorem Gh.Le.box {g g':Gh} (h:Gh.Le g g') (b:Nat) (x:Place) (hb:g.box b=some x):g'.box b=some x:=h.place b x hb
theorem Gh.Le.tok {g g':Gh} (h:Gh.Le g g') (b:Nat) (x:Nat×Nat) (hb:g.tok b=some x):g'.tok b=some x:=h.r.tok hb
theorem Gh.Le.mp {g g':Gh} (h:Gh.Le g g') (b:Nat) (x:Nat) (hb:g.mp b=some x):g'.mp b=some x:=h.r.mp hb
theorem mY.fS {g g':Gh} (h:Gh.vq g g') {aL off:Nat} {vs:List Value} (hi:mY g aL off vs):mY g' aL off vs:=λ i u hu=>h.cJ _ _ _ (hi i u hu)
theorem wc.fS {g g':Gh} (h:Gh.vq g g') {cap:mr} {aL off n c:Nat} (hi:wc g cap aL off n c):wc g' cap aL off n c:=by
 cases cap with
 | full=>exact hi
 | own τ=>exact⟨hi.1,h.tok hi.2⟩
 | iE=>trivial
mutual
theorem aA.fS {g g':Gh} (h:Gh.vq g g'):∀ (x:AV) (v:Value),aA g x v->aA g' x v
 | .bool _,_,hr=>hr
 | .int _ _,_,hr=>hr
 | .str _,_,hr=>hr
 | .a8,_,hr=>hr
 | .ag,_,hr=>hr
 | .kx,_,hr=>hr
 | .eA,_,hr=>hr
 | .dE,_,hr=>hr
 | .box _ _,_,hr=>by
   simp only[aA]at hr ⊢;obtain⟨x,hx,hv⟩:=hr;exact⟨x,h.place _ _ hx,hv⟩
 | .da l,_,hr=>by
   simp only[aA]at hr ⊢;obtain⟨aL,off,vs,hv,hi,hl⟩:=hr;exact⟨aL,off,vs,hv,hi.fS h,aH.fS h l vs hl⟩
 | .vec n cap l,_,hr=>by
   simp only[aA]at hr ⊢;obtain⟨aL,off,c,vs,hv,h1,h2,hc,hi,hl⟩:=hr;exact⟨aL,off,c,vs,hv,h1,h2,hc.fS h,hi.fS h,aH.fS h l vs hl⟩
 | .ms _ _ _ _ _,_,hr=>by
   simp only[aA]at hr ⊢;obtain⟨x,c,hx,r⟩:=hr;exact⟨x,c,h.place _ _ hx,r⟩
 | .mp _,_,hr=>by
   simp only[aA]at hr ⊢;obtain⟨x,hx,hv⟩:=hr;exact⟨x,h.mp hx,hv⟩
 | .gJ ks vs,_,hr=>by
   simp only[aA]at hr ⊢;obtain⟨r,es,c,l,hv,he,hp,hs,h1,h2⟩:=hr;exact⟨r,es,c,l,hv,h.cu _ _ he,hp,hs,aH.fS h ks _ h1,aH.fS h vs _ h2⟩
 | .func fn first captured,_,hr=>by
   simp only[aA]at hr ⊢;obtain⟨fs,cs,hv,h1,h2⟩:=hr;exact⟨fs,cs,hv,aH.fS h first _ h1,aH.fS h captured _ h2⟩
 | .iface t x,_,hr=>by
   simp only[aA]at hr ⊢;obtain⟨u,hv,h1⟩:=hr;exact⟨u,hv,aA.fS h x _ h1⟩
 | .agg l,_,hr=>by
   simp only[aA]at hr ⊢;obtain⟨vs,hv,h0,h1⟩:=hr;exact⟨vs,hv,h0,aH.fS h l _ h1⟩
 | .aK l,_,hr=>by
   simp only[aA]at hr ⊢;obtain⟨vs,hv,h1⟩:=hr;exact⟨vs,hv,aH.fS h l _ h1⟩
 | .te o,_,hr=>by
   simp only[aA]at hr ⊢;obtain⟨x,hx,hv⟩:=hr;exact⟨x,h.place _ _ hx,hv⟩
 | .it o,_,hr=>by
   simp only[aA]at hr ⊢;obtain⟨x,hx,hv⟩:=hr;exact⟨x,h.place _ _ hx,hv⟩
 | .any,_,_=>by simp only[aA]
theorem aH.fS {g g':Gh} (h:Gh.vq g g'):∀ (l:List AV) (vs:List Value),aH g l vs->aH g' l vs
 | [],_,hr=>by simpa only[aH] using hr
 | x::xs,_,hr=>by
   simp only[aH]at hr ⊢;obtain⟨u,us,hv,h1,h2⟩:=hr;exact⟨u,us,hv,aA.fS h x _ h1,aH.fS h xs _ h2⟩
end
theorem mY.mono {g g':Gh} (h:Gh.Le g g') {aL off:Nat} {vs:List Value} (hi:mY g aL off vs):mY g' aL off vs:=hi.fS h.r
theorem aA.mono {g g':Gh} (h:Gh.Le g g') (x:AV) (v:Value) (hr:aA g x v):aA g' x v:=aA.fS h.r x v hr
theorem aH.mono {g g':Gh} (h:Gh.Le g g') (l:List AV) (vs:List Value) (hr:aH g l vs):aH g' l vs:=aH.fS h.r l vs hr
theorem aH.length {g:Gh}:∀ {l:List AV} {vs:List Value},aH g l vs->vs.length=l.length
 | [],_,h=>by simp only[aH]at h; simp[h]
 | _::xs,_,h=>by
   simp only[aH]at h;obtain⟨u,us,rfl,_,h2⟩:=h;simp[aH.length h2]
theorem aH.append {g:Gh}:∀ {l l':List AV} {vs vs':List Value},aH g l vs->aH g l' vs'->aH g (l++l') (vs++vs')
 | [],_,_,_,h,h'=>by simp only[aH]at h; subst h; simpa using h'
 | _::xs,_,_,_,h,h'=>by
   simp only[aH,dK]at h ⊢;obtain⟨u,us,rfl,h1,h2⟩:=h;exact⟨u,us++_,rfl,h1,aH.append h2 h'⟩
theorem aH.get {g:Gh}:∀ {l:List AV} {vs:List Value} {i:Nat} {x:AV},aH g l vs->l[i]?=some x->∃ v,vs[i]?=some v/\aA g x v
 | [],_,_,_,_,hx=>by simp at hx
 | y::xs,_,0,x,h,hx=>by
   simp only[aH]at h;obtain⟨u,us,rfl,h1,h2⟩:=h;simp at hx; subst hx; exact⟨u,rfl,h1⟩
 | y::xs,_,i+1,x,h,hx=>by
   simp only[aH]at h;obtain⟨u,us,rfl,h1,h2⟩:=h;simp at hx;obtain⟨v,hv,hr⟩:=aH.get h2 hx;exact⟨v,by simpa using hv,hr⟩
theorem aH.drop {g:Gh}:∀ {l:List AV} {vs:List Value} (n:Nat),aH g l vs->aH g (l.drop n) (vs.drop n)
 | _,_,0,h=>by simpa using h
 | [],_,n+1,h=>by simp only[aH]at h; subst h; simp[aH]
 | _::xs,_,n+1,h=>by
   simp only[aH]at h;obtain⟨u,us,rfl,h1,h2⟩:=h;simpa using aH.drop n h2
theorem aH.take {g:Gh}:∀ {l:List AV} {vs:List Value} (n:Nat),aH g l vs->aH g (l.take n) (vs.take n)
 | _,_,0,_=>by simp[aH]
 | [],_,n+1,h=>by simp only[aH]at h; subst h; simp[aH]
 | _::xs,_,n+1,h=>by
   simp only[aH]at h;obtain⟨u,us,rfl,h1,h2⟩:=h;simp only[List.take_succ_cons,aH];exact⟨u,_,rfl,h1,aH.take n h2⟩
theorem aH.Fa {g:Gh}:∀ {l:List AV} {vs:List Value},vs.length=l.length->(∀ (i:Nat) (x:AV) (v:Value),l[i]?=some x->vs[i]?=some v->aA g x v)->aH g l vs
 | [],vs,hl,_=>by simp only[aH]; simpa using hl
 | x::xs,[],hl,_=>by simp at hl
 | x::xs,v::vs,hl,h=>by
   simp only[aH];exact⟨v,vs,rfl,h 0 x v rfl rfl,aH.Fa (by simpa using hl) λ i x v hx hv=>h (i+1) x v (by simpa using hx) (by simpa using hv)⟩
def yK (g:Gh) (ks vs:List AV) (es:Array MapEntry):Prop:=∃ l:List MapEntry,l.Perm es.toList/\qQ ks/\aH g ks (l.map (·.key))/\aH g vs (l.map (·.val))
def Ec (g:Gh) (es:Array MapEntry) (seen:Array Nat) (rest:List (AV×AV)) (cur:Option (AV×AV)):Prop :=
 (∃ l:List MapEntry,l.Perm (es.toList.filter λ e=>!seen.contains e.born)/\aH g (rest.map (·.1)) (l.map (·.key))/\aH g (rest.map (·.2)) (l.map (·.val))) /\
 (match cur with
  | none=>True
  | some (k,v)=>∃ e∈es.toList,seen.back?=some e.born/\aA g k e.key/\aA g v e.val)
def mZ (g:Gh) (w:World) (p:Place):Live->Prop
 | .box l=>∃ cur vs rest,w.heap[p.aL]?=some (.cells cur p.e (0,0))/\cur.size=p.size/\cur.toList=vs++rest/\aH g l vs/\(∀ u∈cur.toList,u.oneCell'=true)/\(∀ o,g.cJ p.aL o=none)
 | .tok t=>∃ cur,w.heap[p.aL]?=some (.cells cur t.e (0,0))/\cur.size=p.size*t.size/\t.n<=p.size/\p.size<=maxLen/\(∀ o,t.n*t.size<=o->g.cJ p.aL o=none)
 | .mp ks vs=>∃ es clock,w.heap[p.aL]?=some (.map es clock)/\mq es clock/\yK g ks vs es/\g.cu p.aL=none
 | .loop L=>∃ fn tmps defers,w.heap[p.aL]?=some (.loop { state:=L.state,pending:=L.gL,fn,tmps,params:=L.params,assign:=L.assign,body:=L.body,defers })/\tmps.size=L.nt/\∀ t,aA g (L.ρ t) (tmps.getD t undef)
 | .iter rest cur=>∃ m es clock seen,w.heap[p.aL]?=some (.mapIter (some m) clock seen clock)/\g.cu m=some (es,clock)/\Ec g es seen rest cur
 | .uS t l=>p.e=t/\p.size=l.length/\∃ cur vs rest,w.heap[p.aL]?=some (.cells cur p.e (0,0))/\cur.size=p.size/\cur.toList=vs++rest/\aH g l vs/\(∀ u∈cur.toList,u.oneCell'=true)/\(∀ o,g.cJ p.aL o=none)
structure St where
 live:Nat->Option Live
 nb:Option Nat
def St.box (U:St) (b:Nat):Option (List AV):=match U.live b with|some (.box l)=>some l|some (.uS _ l)=>some l|_=>none
def St.tok (U:St) (b:Nat):Option Tok:=match U.live b with|some (.tok t)=>some t|_=>none
def St.mp (U:St) (b:Nat):Option (List AV×List AV):=match U.live b with|some (.mp ks vs)=>some (ks,vs)|_=>none
def St.loop (U:St) (b:Nat):Option gm:=match U.live b with|some (.loop L)=>some L|_=>none
def St.iter (U:St) (b:Nat):Option (List (AV×AV)×Option (AV×AV)):=match U.live b with|some (.iter r c)=>some (r,c)|_=>none
theorem St.vu {U:St} {b:Nat} {l:List AV} (h:U.box b=some l):∃ x,U.live b=some x/\∀ g w p,mZ g w p x->mZ g w p (.box l):=by
 unfold St.box at h;split at h
 . rename_i l' hl; cases h; exact⟨_,hl,λ _ _ _ h=>h⟩
 . rename_i t l' hl; cases h; exact⟨_,hl,λ _ _ _ h=>h.2.2⟩
 . cases h
theorem St.ml {U:St} {b:Nat} {l:Tok}:U.tok b=some l↔U.live b=some (.tok l):=by unfold St.tok; split<;>simp_all
theorem St.re {U:St} {b:Nat} {l:List AV×List AV}:U.mp b=some l↔U.live b=some (.mp l.1 l.2):=by unfold St.mp; split<;>simp_all [Prod.ext_iff]
theorem St.o0 {U:St} {b:Nat} {l:gm}:U.loop b=some l↔U.live b=some (.loop l):=by unfold St.loop; split<;>simp_all
theorem St.y7 {U:St} {b:Nat} {l:List (AV×AV)×Option (AV×AV)}:U.iter b=some l↔U.live b=some (.iter l.1 l.2):=by unfold St.iter; split<;>simp_all [Prod.ext_iff]
def St.set (U:St) (b:Nat) (x:Live):St:={ U with live:=λ y=>if y=b then some x else U.live y }
def St.del (U:St) (b:Nat):St:={ U with live:=λ y=>if y=b then none else U.live y }
def St.new (U:St) (b:Nat) (x:Live):St:={ live:=λ y=>if y=b then some x else U.live y,nb:=U.nb.map (·+1) }
def St.dL (U:St) (b:Nat):Prop:=U.live b=none/\∀ n,U.nb=some n->b=n
structure bw (g:Gh) (U:St) (w:World):Prop where
 below:Below g.base g.w0 w
 le:g.base<=w.heap.size
 cJ:∀ aL o u,g.cJ aL o=some u->w.cell? ⟨aL,o,none⟩=some u/\u.oneCell'=true
 cu:∀ r es c,g.cu r=some (es,c)->w.heap[r]?=some (.map es c)/\mq es c
 live:∀ b x,U.live b=some x->∃ p,g.place b=some p/\g.base<=p.aL/\mZ g w p x
 apart:∀ b b' x x' p p',U.live b=some x->U.live b'=some x'->g.place b=some p->g.place b'=some p'->p.aL=p'.aL->b=b'
 res:∀ r,g.res r=true->g.base<=r/\w.heap[r]?=some (.deferred (some []))
 fin:∃ N,(∀ n,U.nb=some n->N=n)/\∀ b,N<=b->g.place b=none
end Go.Rip
namespace Go.Rip
open Go.RowKit
structure St.Le (U ad:St):Prop where
 live:∀ b x,U.live b=some x->ad.live b=some x
 nb:∀ n,U.nb=some n->ad.nb=some n
theorem St.Le.refl (U:St):St.Le U U:=⟨λ _ _ h=>h,λ _ h=>h⟩
theorem St.Le.trans {a b c:St} (h:St.Le a b) (k:St.Le b c):St.Le a c:=⟨λ _ _ x=>k.live _ _ (h.live _ _ x),λ _ x=>k.nb _ (h.nb _ x)⟩
theorem St.vw (U:St) (b:Nat):St.Le (U.del b) U:=⟨λ x y hx=>by simp only[St.del]at hx; split at hx<;>simp_all,λ _ h=>h⟩
theorem bw.weaken {g:Gh} {U ad:St} {w:World} (h:bw g ad w) (hl:St.Le U ad):bw g U w where
 below:=h.below
 le:=h.le
 cJ:=h.cJ
 cu:=h.cu
 live:=λ b l hb=>h.live b l (hl.live _ _ hb)
 apart:=λ b b' l l' x x' h1 h2=>h.apart b b' l l' x x' (hl.live _ _ h1) (hl.live _ _ h2)
 res:=h.res
 fin:=let ⟨N,h1,h2⟩:=h.fin; ⟨N,λ n hn=>h1 n (hl.nb n hn),h2⟩
theorem IS {w w':World} {k:Nat} (h:w'.heap[k]?=w.heap[k]?) (o:Nat):w'.cell? ⟨k,o,none⟩=w.cell? ⟨k,o,none⟩:=by simp[World.cell?,h]
theorem bw.SQ {g:Gh} {U:St} {w:World} (h:bw g U w) {aL o:Nat} {u:Value} (hi:g.cJ aL o=some u):aL<w.heap.size :=
 World.block_lt_of_cell? w ⟨aL,o,none⟩ (h.cJ _ _ _ hi).1
theorem bw.Og {g:Gh} {U:St} {w:World} (h:bw g U w) {r:Nat} {x:Array MapEntry×Nat} (hi:g.cu r=some x):r<w.heap.size :=
 (mG.1 (h.cu r x.1 x.2 hi).1).1
theorem bw.Cd {g:Gh} {U:St} {w:World} (h:bw g U w) {q:Nat} (hq:w.heap.size<=q) (o:Nat):g.cJ q o=none:=by
 cases e:g.cJ q o with
 | none=>rfl
 | some u=>have:=h.SQ e; omega
theorem bw.y0 {g:Gh} {U:St} {w:World} (h:bw g U w) {q:Nat} (hq:w.heap.size<=q):g.cu q=none:=by
 cases e:g.cu q with
 | none=>rfl
 | some u=>have:=h.Og e; omega
theorem yK.fS {g g':Gh} (h:Gh.vq g g') {ks vs:List AV} {es:Array MapEntry} (hm:yK g ks vs es):yK g' ks vs es :=
 let ⟨l,h1,h2,h3,h4⟩:=hm; ⟨l,h1,h2,h3.fS h,h4.fS h⟩
theorem Ec.fS {g g':Gh} (h:Gh.vq g g') {es:Array MapEntry} {seen:Array Nat} {rest:List (AV×AV)} {cur:Option (AV×AV)} (hm:Ec g es seen rest cur):Ec g' es seen rest cur:=by
 obtain⟨⟨l,h1,h2,h3⟩,h4⟩:=hm;refine⟨⟨l,h1,h2.fS h,h3.fS h⟩,?_⟩;cases cur with
 | none=>trivial
 | some kv=>obtain⟨e,k1,k2,k3,k4⟩:=h4; exact⟨e,k1,k2,k3.fS h,k4.fS h⟩
theorem mZ.frame {g g':Gh} {w w':World} {p:Place} {x:Live} (h:mZ g w p x) (hl:Gh.vq g g') (hb:w'.heap[p.aL]?=w.heap[p.aL]?) (hi:∀ o,g'.cJ p.aL o=g.cJ p.aL o) (hm:g'.cu p.aL=g.cu p.aL):mZ g' w' p x:=by
 cases x with
 | box l=>obtain⟨cur,vs,rest,h1,h2,h3,h4,h5,h6⟩:=h; exact⟨cur,vs,rest,hb.trans h1,h2,h3,h4.fS hl,h5,λ o=>(hi o).trans (h6 o)⟩
 | tok t=>obtain⟨cur,h1,h2,h3,h4,h5⟩:=h; exact⟨cur,hb.trans h1,h2,h3,h4,λ o ho=>(hi o).trans (h5 o ho)⟩
 | mp ks vs=>obtain⟨es,clock,h1,h2,h3,h4⟩:=h; exact⟨es,clock,hb.trans h1,h2,h3.fS hl,hm.trans h4⟩
 | loop L=>obtain⟨fn,tmps,defers,h1,h2,h3⟩:=h; exact⟨fn,tmps,defers,hb.trans h1,h2,λ t=>(h3 t).fS hl⟩
 | iter rest cur=>obtain⟨m,es,clock,seen,h1,h2,h3⟩:=h; exact⟨m,es,clock,seen,hb.trans h1,hl.cu _ _ h2,h3.fS hl⟩
 | uS t l=>obtain⟨e1,e2,cur,vs,rest,h1,h2,h3,h4,h5,h6⟩:=h; exact⟨e1,e2,cur,vs,rest,hb.trans h1,h2,h3,h4.fS hl,h5,λ o=>(hi o).trans (h6 o)⟩
theorem mZ.lt {g:Gh} {w:World} {p:Place} {x:Live} (h:mZ g w p x):p.aL<w.heap.size:=by
 have:∃ o,w.heap[p.aL]?=some o:=by
  cases x with
  | box l=>obtain⟨cur,vs,rest,h1,_⟩:=h; exact⟨_,h1⟩
  | tok t=>obtain⟨cur,h1,_⟩:=h; exact⟨_,h1⟩
  | mp ks vs=>obtain⟨es,clock,h1,_⟩:=h; exact⟨_,h1⟩
  | loop L=>obtain⟨fn,tmps,defers,h1,_⟩:=h; exact⟨_,h1⟩
  | iter rest cur=>obtain⟨m,es,clock,seen,h1,_⟩:=h; exact⟨_,h1⟩
  | uS t l=>obtain⟨_,_,cur,vs,rest,h1,_⟩:=h; exact⟨_,h1⟩
 exact (mG.1 this.choose_spec).1
theorem mZ.OE {g:Gh} {w:World} {p:Place} {x:Live} (h:mZ g w p x) {r:Nat} {ds:Option (List Deferred)} (hr:w.heap[r]?=some (.deferred ds)):p.aL≠r:=by
 intro e;subst e;cases x with
 | box l=>obtain⟨cur,vs,rest,h1,_⟩:=h; rw[hr]at h1; cases h1
 | tok t=>obtain⟨cur,h1,_⟩:=h; rw[hr]at h1; cases h1
 | mp ks vs=>obtain⟨es,clock,h1,_⟩:=h; rw[hr]at h1; cases h1
 | loop L=>obtain⟨fn,tmps,defers,h1,_⟩:=h; rw[hr]at h1; cases h1
 | iter rest cur=>obtain⟨m,es,clock,seen,h1,_⟩:=h; rw[hr]at h1; cases h1
 | uS t l=>obtain⟨_,_,cur,vs,rest,h1,_⟩:=h; rw[hr]at h1; cases h1
theorem bw.change {g g':Gh} {U:St} {w w':World} (h:bw g U w) (B:Nat) (hB:g.base<=B) (hle:Gh.Le g g') (nj:g'.place=g.place) (hres:g'.res=g.res)
 (hw:w'.os=w.os/\w'.tape=w.tape/\w'.output=w.output/\w.heap.size<=w'.heap.size) (hk:∀ k,k≠B->k<w.heap.size->w'.heap[k]?=w.heap[k]?)
 (pF:∀ q o,q≠B->g'.cJ q o=g.cJ q o) (Zy:∀ q,q≠B->g'.cu q=g.cu q)
 (hi:∀ o u,g'.cJ B o=some u->w'.cell? ⟨B,o,none⟩=some u/\u.oneCell'=true) (hm:∀ es c,g'.cu B=some (es,c)->w'.heap[B]?=some (.map es c)/\mq es c)
 (kf:∀ b x p,U.live b=some x->g.place b=some p->p.aL≠B) (ahd:g.res B=false):bw g' U w':=by
 have aN:∀ k o,w.heap[k]?=some o->k≠B->w'.heap[k]?=some o:=λ k o N2 hn=>by rw[hk k hn (mG.1 N2).1]; exact N2
 exact {
  below:=by
   rw[hle.base,hle.w0];exact h.below.trans ⟨hw.1,hw.2.1,hw.2.2.1,hw.2.2.2,λ k hkb=>hk k (by omega) (by have:=h.le; omega)⟩
  le:=by rw[hle.base]; exact Nat.le_trans h.le hw.2.2.2
  cJ:=λ q o u hu=>by
   by_cases hq:q=B
   . subst hq; exact hi o u hu
   . rw[pF q o hq]at hu;rw[IS (hk q hq (h.SQ hu))]; exact h.cJ _ _ _ hu
  cu:=λ r es c hr=>by
   by_cases hq:r=B
   . subst hq; exact hm es c hr
   . rw[Zy r hq]at hr;rw[hk r hq (h.Og hr)]; exact h.cu _ _ _ hr
  live:=λ b x hb=>by
   obtain⟨p,h1,h2,h3⟩:=h.live b x hb;have N7:=kf b x p hb h1;refine⟨p,by rw[nj]; exact h1,by rw[hle.base]; exact h2,h3.frame hle.r (hk _ N7 h3.lt) (λ o=>pF _ _ N7) (Zy _ N7)⟩
  apart:=λ b b' x x' p p' h1 h2 h3 h4 h5=>by rw[nj]at h3 h4; exact h.apart b b' x x' p p' h1 h2 h3 h4 h5
  res:=λ r hr=>by
   rw[hres]at hr;obtain⟨h1,h2⟩:=h.res r hr;rw[hle.base];exact⟨h1,aN _ _ h2 (λ e=>by subst e; rw[ahd]at hr; cases hr)⟩
  fin:=by rw[nj]; exact h.fin }
theorem bw.named {g:Gh} {U:St} {w:World} (h:bw g U w) {b:Nat} {p:Place} {x:Live} (hb:g.place b=some p) (hB:g.base<=p.aL) (hx:mZ g w p x)
 (kf:∀ b' x' p',b'≠b->U.live b'=some x'->g.place b'=some p'->p'.aL≠p.aL):bw g (U.set b x) w where
 below:=h.below
 le:=h.le
 cJ:=h.cJ
 cu:=h.cu
 live:=λ b' x' eY=>by
  simp only[St.set]at eY;split at eY
  . rename_i e; subst e; cases eY; exact⟨p,hb,hB,hx⟩
  . exact h.live b' x' eY
 apart:=λ b1 b2 x1 x2 p1 p2 h1 h2 h3 h4 h5=>by
  simp only[St.set]at h1 h2
  by_cases e1:b1=b<;>by_cases e2:b2=b
  . rw[e1,e2]
  . rw[if_neg e2]at h2;subst e1; rw[hb]at h3; cases h3;exact absurd h5.symm (kf _ _ _ e2 h2 h4)
  . rw[if_neg e1]at h1;subst e2; rw[hb]at h4; cases h4;exact absurd h5 (kf _ _ _ e1 h1 h3)
  . rw[if_neg e1]at h1; rw[if_neg e2]at h2;exact h.apart _ _ _ _ _ _ h1 h2 h3 h4 h5
 res:=h.res
 fin:=h.fin
def Gh.pZ (g:Gh) (b:Nat) (p:Place):Gh:={ g with place:=λ y=>if y=b then some p else g.place y }
theorem Gh.lF (g:Gh) (b:Nat) (p:Place):(g.pZ b p).place b=some p:=by simp[Gh.pZ]
theorem Gh.px (g:Gh) {b y:Nat} (p:Place) (h:y≠b):(g.pZ b p).place y=g.place y:=by simp[Gh.pZ,h]
theorem Gh.C5 {g:Gh} {b:Nat} (p:Place) (h:g.place b=none):Gh.Le g (g.pZ b p) :=
 ⟨rfl,rfl,λ y x hy=>by rw[Gh.px _ _ (λ e=>by subst e; rw[h]at hy; cases hy)]; exact hy,λ _ _ _ h=>h,λ _ _ h=>h,λ _ h=>h,λ _ _ _=>rfl,λ _ _=>rfl⟩
theorem bw.newName {g:Gh} {U:St} {w:World} (h:bw g U w) (p:Place) (hB:g.base<=p.aL) (kf:∀ b' x' p',U.live b'=some x'->g.place b'=some p'->p'.aL≠p.aL) :
 ∃ b,U.dL b/\Gh.Le g (g.pZ b p)/\∀ x,mZ (g.pZ b p) w p x->bw (g.pZ b p) (U.new b x) w:=by
 obtain⟨N,hN1,hN2⟩:=h.fin;have CW:g.place N=none:=hN2 N (bX _);have hln:U.live N=none:=by
  cases e:U.live N with
  | none=>rfl
  | some x=>obtain⟨p,h1,_⟩:=h.live N x e; rw[CW]at h1; cases h1
 refine⟨N,⟨hln,hN1⟩,Gh.C5 p CW,λ x hx=>?_⟩;have hle:=Gh.C5 (g:=g) p CW;have ca:∀ b x,U.live b=some x->b≠N:=λ b x hb e=>by subst e; rw[hln]at hb; cases hb
 exact {
  below:=h.below
  le:=h.le
  cJ:=h.cJ
  cu:=h.cu
  live:=λ b' x' eY=>by
   simp only[St.new]at eY;split at eY
   . rename_i e; subst e; cases eY; exact⟨p,Gh.lF _ _ _,hB,hx⟩
   . obtain⟨p',h1,h2,h3⟩:=h.live b' x' eY;exact⟨p',hle.place _ _ h1,h2,h3.frame hle.r rfl (λ _=>rfl) rfl⟩
  apart:=λ b1 b2 x1 x2 p1 p2 h1 h2 h3 h4 h5=>by
   simp only[St.new]at h1 h2
   by_cases e1:b1=N<;>by_cases e2:b2=N
   . rw[e1,e2]
   . rw[if_neg e2]at h2; rw[Gh.px _ _ e2]at h4;subst e1; rw[Gh.lF]at h3; cases h3;exact absurd h5.symm (kf _ _ _ h2 h4)
   . rw[if_neg e1]at h1; rw[Gh.px _ _ e1]at h3;subst e2; rw[Gh.lF]at h4; cases h4;exact absurd h5 (kf _ _ _ h1 h3)
   . rw[if_neg e1]at h1; rw[if_neg e2]at h2;rw[Gh.px _ _ e1]at h3; rw[Gh.px _ _ e2]at h4;exact h.apart _ _ _ _ _ _ h1 h2 h3 h4 h5
  res:=h.res
  fin:=⟨N+1,λ n hn=>by
   simp only[St.new,qN]at hn;obtain⟨m,hm,rfl⟩:=hn;rw[hN1 m hm],λ b hb=>by rw[Gh.px _ _ (by omega)]; exact hN2 b (by omega)⟩ }
theorem bw.grow {g:Gh} {U:St} {w w':World} (h:bw g U w) (hg:w.grownBy w' none):bw g U w':=by
 have hb:∀ k,k<w.heap.size->w'.heap[k]?=w.heap[k]?:=λ k hk=>hg.block k hk (by simp);refine h.change w.heap.size h.le (Gh.Le.refl g) rfl rfl ⟨hg.os,hg.tape,hg.output,hg.size⟩ (λ k _ hk=>hb k hk) (λ _ _ _=>rfl) (λ _ _=>rfl) (λ o u hu=>?_) (λ es c hr=>?_) (λ b x p h1 h2=>?_) ?_
 . rw[h.Cd (bX _)]at hu; cases hu
 . rw[h.y0 (bX _)]at hr; cases hr
 . obtain⟨p',k1,_,k3⟩:=h.live b x h1;rw[h2]at k1; cases k1;exact Nat.ne_of_lt k3.lt
 . cases e:g.res w.heap.size with
   | false=>rfl
   | true=>have:=(mG.1 (h.res _ e).2).1; omega
theorem mz (w:World):w.grownBy w.drew none:=⟨rfl,rfl,rfl,bX _,λ _ _ _=>rfl⟩
theorem bw.GH {g:Gh} {U:St} {w:World} (h:bw g U w) {q:Nat} (hq:w.heap.size<=q):g.res q=false:=by
 cases e:g.res q with
 | false=>rfl
 | true=>have:=(mG.1 (h.res _ e).2).1; omega
theorem bw.zp {g:Gh} {U:St} {w:World} (h:bw g U w) {b:Nat} {x:Live} {p:Place} (hb:U.live b=some x) (hp:g.place b=some p):p.aL<w.heap.size:=by
 obtain⟨p',k1,_,k3⟩:=h.live b x hb;rw[hp]at k1; cases k1;exact k3.lt
theorem bw.vV {g:Gh} {U:St} {w:World} (h:bw g U w) {b:Nat} {x:Live} {p:Place} (hb:U.live b=some x) (hp:g.place b=some p):g.res p.aL=false:=by
 cases e:g.res p.aL with
 | false=>rfl
 | true =>
   obtain⟨p',k1,_,k3⟩:=h.live b x hb;rw[hp]at k1; cases k1;exact absurd rfl (k3.OE (h.res _ e).2)
theorem bw.vN {g:Gh} {U:St} {w:World} (h:bw g U w) (o:Obj) (e:TypeId) (size:Nat) (x:Live)
 (hx:∀ g',Gh.Le g g'->(∀ o,g'.cJ w.heap.size o=none)->g'.cu w.heap.size=none->mZ g' (w.alloc o) ⟨w.heap.size,e,size⟩ x) :
 ∃ b g',U.dL b/\Gh.Le g g'/\g'.place b=some ⟨w.heap.size,e,size⟩/\bw g' (U.new b x) (w.alloc o):=by
 have hs:=h.grow (w.grownBy_alloc o none);obtain⟨b,h1,h2,h3⟩:=hs.newName ⟨w.heap.size,e,size⟩ h.le (λ b' x' p' k1 k2=>Nat.ne_of_lt (h.zp k1 k2));exact⟨b,_,h1,h2,Gh.lF _ _ _,h3 x (hx _ h2 (λ o=>h.Cd (bX _) o) (h.y0 (bX _)))⟩
end Go.Rip
namespace Go.Rip
open Go.RowKit
def St.cx (U:St) (b:Nat) (l:List AV):St:=U.set b (.box l)
def St.ahz (U:St) (b:Nat) (kv:List AV×List AV):St:=U.set b (.mp kv.1 kv.2)
theorem bw.box {g:Gh} {U:St} {w:World} (h:bw g U w) (b:Nat) (l:List AV) (hb:U.box b=some l):∃ x cur vs rest,g.box b=some x/\g.base<=x.aL/\w.heap[x.aL]?=some (.cells cur x.e (0,0))/\cur.size=x.size/\cur.toList=vs++rest/\aH g l vs /\
 (∀ u∈cur.toList,u.oneCell'=true)/\(∀ o,g.cJ x.aL o=none):=by
 obtain⟨y,hy,hyb⟩:=St.vu hb;obtain⟨p,h1,h2,hp⟩:=h.live b _ hy;obtain⟨cur,vs,rest,h3,h4,h5,h6,h7,h8⟩:=hyb _ _ _ hp;exact⟨p,cur,vs,rest,h1,h2,h3,h4,h5,h6,h7,h8⟩
theorem bw.tok {g:Gh} {U:St} {w:World} (h:bw g U w) (τ:Nat) (t:Tok) (ht:U.tok τ=some t):∃ aL c cur,g.tok τ=some (aL,c)/\g.base<=aL/\w.heap[aL]?=some (.cells cur t.e (0,0))/\cur.size=c*t.size/\t.n<=c/\c<=maxLen /\
 (∀ o,t.n*t.size<=o->g.cJ aL o=none):=by
 obtain⟨p,h1,h2,cur,h3,h4,h5,h6,h7⟩:=h.live τ _ (St.ml.1 ht);exact⟨p.aL,p.size,cur,Gh.ml.2 ⟨p,h1,rfl,rfl⟩,h2,h3,h4,h5,h6,h7⟩
theorem bw.mp {g:Gh} {U:St} {w:World} (h:bw g U w) (m:Nat) (kv:List AV×List AV) (hm:U.mp m=some kv):∃ r es clock,g.mp m=some r/\g.base<=r/\w.heap[r]?=some (.map es clock)/\mq es clock/\yK g kv.1 kv.2 es/\g.cu r=none:=by
 obtain⟨p,h1,h2,es,clock,h3,h4,h5,h6⟩:=h.live m _ (St.re.1 hm);exact⟨p.aL,es,clock,Gh.re.2 ⟨p,h1,rfl⟩,h2,h3,h4,h5,h6⟩
theorem bw.rewrite {g:Gh} {U:St} {w w':World} (h:bw g U w) {b:Nat} {x x':Live} {p:Place} (hb:U.live b=some x) (hp:g.place b=some p)
 (hw:w'.os=w.os/\w'.tape=w.tape/\w'.output=w.output/\w.heap.size<=w'.heap.size) (hk:∀ k,k≠p.aL->k<w.heap.size->w'.heap[k]?=w.heap[k]?)
 (hi:∀ o,g.cJ p.aL o=none) (hm:g.cu p.aL=none) (hx:mZ g w' p x'):bw g (U.set b x') w':=by
 obtain⟨p',k1,k2,k3⟩:=h.live b x hb;rw[hp]at k1; cases k1;have kf:∀ b' x' p',b'≠b->U.live b'=some x'->g.place b'=some p'->p'.aL≠p.aL:=λ b' x' p' ca h1 h2 e=>ca (h.apart _ _ _ _ _ _ h1 hb h2 hp e);have hd:∀ b' x' p',(U.del b).live b'=some x'->g.place b'=some p'->p'.aL≠p.aL:=λ b' x' p' h1 h2=>by
  simp only[St.del]at h1;split at h1
  . cases h1
  . rename_i e; exact kf _ _ _ e h1 h2
 have h1:=(h.weaken (St.vw U b)).change p.aL k2 (Gh.Le.refl g) rfl rfl hw hk (λ _ _ _=>rfl) (λ _ _=>rfl) (λ o u hu=>by rw[hi]at hu; cases hu) (λ es c hr=>by rw[hm]at hr; cases hr) hd (h.vV hb hp);have h2:=h1.named hp k2 hx (λ b' x' p' _ q1 q2=>hd b' x' p' q1 q2);have e:(U.del b).set b x'=U.set b x':=by
  simp only[St.del,St.set,St.mk.injEq,and_true];funext y;split<;>rfl
 rw[<- e]; exact h2
theorem bw.cL {g:Gh} {U:St} {w:World} (h:bw g U w) (e:TypeId) (cur:Array Value) (vs rest:List Value) (l:List AV) (hc:cur.toList=vs++rest) (hl:aH g l vs) (h1:∀ u∈cur.toList,u.oneCell'=true) :
 ∃ b g',U.dL b/\Gh.Le g g'/\g'.box b=some ⟨w.heap.size,e,cur.size⟩/\bw g' (U.new b (.box l)) (w.alloc (.cells cur e)) :=
 h.vN (.cells cur e) e cur.size (.box l) λ g' hle hi hm=>⟨cur,vs,rest,heap_alloc_new w _,rfl,hc,hl.mono hle,h1,hi⟩
theorem bw.Tl {g:Gh} {U:St} {w:World} (h:bw g U w) (e:TypeId) (cur:Array Value) (vs rest:List Value) (hc:cur.toList=vs++rest) (h1:∀ u∈cur.toList,u.oneCell'=true) :
 ∃ g',Gh.Le g g'/\mY g' w.heap.size 0 vs/\(∀ o,vs.length<=o->g'.cJ w.heap.size o=none)/\g'.place=g.place/\bw g' U (w.alloc (.cells cur e)):=by
 let g':Gh:={ g with cJ:=λ aL o=>if aL=w.heap.size then vs[o]? else g.cJ aL o }
 have rE:∀ o,g'.cJ w.heap.size o=vs[o]?:=λ o=>by show (if w.heap.size=w.heap.size then _ else _)=_; rw[if_pos rfl]
 have hold:∀ aL o,aL≠w.heap.size->g'.cJ aL o=g.cJ aL o:=λ aL o hx=>by show (if aL=w.heap.size then _ else _)=_; rw[if_neg hx]
 have hle:Gh.Le g g':=⟨rfl,rfl,λ _ _ h=>h,λ aL o u hu=>by
  rw[hold _ _ (λ e=>by subst e; rw[h.Cd (bX _)]at hu; cases hu)]; exact hu,λ _ _ h=>h,λ _ h=>h,λ q o hq=>hold _ _ (by have:=h.le; omega),λ _ _=>rfl⟩
 have hg:=w.grownBy_alloc (.cells cur e) none;refine⟨g',hle,λ i u hu=>by rw[db,rE]; exact hu,λ o ho=>by rw[rE]; simpa using ho,rfl,?_⟩;refine h.change w.heap.size h.le hle rfl rfl ⟨hg.os,hg.tape,hg.output,hg.size⟩ (λ k _ hk=>hg.block k hk (by simp)) (λ q o hq=>hold q o hq) (λ _ _=>rfl) (λ o u hu=>?_) (λ es c hr=>?_) (λ b x p k1 k2=>Nat.ne_of_lt (h.zp k1 k2)) (h.GH (bX _))
 . rw[rE]at hu;have Hr:cur[o]?=some u:=by
    rw[<- mH,hc,uG (by
     rcases kI o vs.length with h|h
     . exact h
     . simp[vT h]at hu)]
    exact hu
   exact⟨by rw[cell_of_row _ _ _ cur e (0,0) (heap_alloc_new w _)]; exact Hr,h1 u (gw (by rw[mH]; exact Hr))⟩
 . have:g.cu w.heap.size=some (es,c):=hr;rw[h.y0 (bX _)]at this; cases this
theorem bw.po {g:Gh} {U:St} {w:World} (h:bw g U w) {r:Nat} {c:Array Value} {e:TypeId} {f:Nat×Nat} (hh:w.heap[r]?=some (.cells c e f)):g.cu r=none:=by
 cases e:g.cu r with
 | none=>rfl
 | some x=>have:=(h.cu r x.1 x.2 e).1; rw[hh]at this; cases this
theorem bw.setRow {g:Gh} {U:St} {w:World} (h:bw g U w) {b:Nat} {l l':List AV} {x:Place} (hb:U.box b=some l) (hx:g.box b=some x)
 (cur:Array Value) (vs rest:List Value) (fH:cur.size=x.size) (hc:cur.toList=vs++rest) (hl:aH g l' vs) (h1:∀ u∈cur.toList,u.oneCell'=true) :
 bw g (U.cx b l') (w.setRow x.aL cur):=by
 obtain⟨x',ad9,vs0,ahw,k1,k2,k3,k4,k5,k6,k7,k8⟩:=h.box b l hb;rw[hx]at k1; cases k1;obtain⟨y,hy,_⟩:=St.vu hb;exact h.rewrite hy hx ⟨rfl,rfl,rfl,by simp⟩ (λ k hk _=>setRow_other _ _ _ _ hk) k8 (h.po k3) ⟨cur,vs,rest,setRow_heap w x.aL ad9 cur x.e (0,0) k3,fH,hc,hl,h1,k8⟩
theorem bw.ahu {g:Gh} {U:St} {w:World} (h:bw g U w) {b:Nat} {l:List AV} (hb:U.box b=some l):bw g (U.cx b l) w:=by
 obtain⟨y,hy,hyb⟩:=St.vu hb;obtain⟨p,h1,h2,hp⟩:=h.live b _ hy;obtain⟨cur,vs,rest,h3,h4,h5,h6,h7,h8⟩:=hyb _ _ _ hp;exact h.rewrite hy h1 ⟨rfl,rfl,rfl,bX _⟩ (λ _ _ _=>rfl) h8 (h.po h3) ⟨cur,vs,rest,h3,h4,h5,h6,h7,h8⟩
theorem Gs {cur cur':Array Value} {a:Nat} {news:List Value} (ha:a<=cur.size) (oP:cur'.toList=cur.toList.take a++news++cur.toList.drop (a+news.length)) (o:Nat) :
 cur'[o]?=if o<a then cur[o]? else if o<a+news.length then news[o-a]? else cur[o]?:=by
 rw[<- mH,oP,dc];have hl:(cur.toList.take a).length=a:=by simp; omega
 by_cases h1:o<a
 . rw[if_pos h1,uG (by omega),List.getElem?_take,if_pos h1,mH]
 . rw[if_neg h1,List.getElem?_append_right (by omega),hl]
   by_cases h2:o<a+news.length
   . rw[if_pos h2,uG (by omega)]
   . rw[if_neg h2,List.getElem?_append_right (by omega),List.getElem?_drop,mH];congr 1; omega
theorem bw.afz {g:Gh} {U:St} {w:World} (h:bw g U w) {τ:Nat} {t:Tok} {aL c:Nat} (ht:U.tok τ=some t) (hg:g.tok τ=some (aL,c))
 (cur cur':Array Value) (news:List Value) (m:Nat) (PV:w.heap[aL]?=some (.cells cur t.e (0,0))) (hlen:news.length=m*t.size) (qJ:t.n+m<=c)
 (oP:cur'.toList=cur.toList.take (t.n*t.size)++news++cur.toList.drop (t.n*t.size+news.length)) (h1:∀ u∈news,u.oneCell'=true) :
 ∃ xd g',(U.del τ).dL xd/\Gh.Le g g'/\g'.tok xd=some (aL,c)/\mY g' aL (t.n*t.size) news/\bw g' ((U.del τ).new xd (.tok ⟨t.n+m,t.e,t.size⟩)) (w.setRow aL cur'):=by
 obtain⟨p,hp,N7,hpc⟩:=Gh.ml.1 hg;dsimp only at N7 hpc;subst N7 hpc;obtain⟨p',k1,k2,ad9,k3,k4,k5,k6,k7⟩:=h.live τ _ (St.ml.1 ht);rw[hp]at k1; cases k1;rw[PV]at k3; cases k3;have x7:(t.n+m)*t.size<=cur.size:=by rw[k4]; exact Nat.mul_le_mul_right _ qJ
 have Hx:(t.n+m)*t.size=t.n*t.size+news.length:=by rw[hlen,Nat.add_mul]
 have fH:cur'.size=cur.size:=by
  have:=congrArg List.length oP;simp only[uH,cO,List.length_take,List.length_drop]at this;omega
 let g':Gh:={ g with cJ:=λ q o=>if q=p.aL/\t.n*t.size<=o/\o<t.n*t.size+news.length then news[o-t.n*t.size]? else g.cJ q o }
 have pF:∀ q o,q≠p.aL->g'.cJ q o=g.cJ q o:=λ q o hq=>by
  show (if _ then _ else _)=_
  rw[if_neg (λ e=>hq e.1)]
 have hle:Gh.Le g g':=⟨rfl,rfl,λ _ _ h=>h,λ q o u hu=>by
  show (if _ then _ else _)=_
  rw[if_neg (λ e=>by obtain⟨rfl,e2,_⟩:=e; rw[k7 o e2]at hu; cases hu)]; exact hu,λ _ _ h=>h,λ _ h=>h,λ q o hq=>pF _ _ (by omega),λ _ _=>rfl⟩
 have KL:=setRow_heap w p.aL cur cur' t.e (0,0) PV;have uC:=λ o=>Gs (cur:=cur) (cur':=cur') (a:=t.n*t.size) (news:=news) (by omega) oP o;have kf:∀ b' x' p',(U.del τ).live b'=some x'->g.place b'=some p'->p'.aL≠p.aL:=λ b' x' p' h1 h2 e=>by
  simp only[St.del]at h1;split at h1
  . cases h1
  . rename_i ne; exact ne (h.apart _ _ _ _ _ _ h1 (St.ml.1 ht) h2 hp e)
 have hs:=(h.weaken (St.vw U τ)).change (w':=w.setRow p.aL cur') p.aL k2 hle rfl rfl ⟨rfl,rfl,rfl,by simp⟩ (λ k hk _=>setRow_other _ _ _ _ hk) pF (λ _ _=>rfl) (λ o u hu=>by
  rw[cell_of_row _ _ _ cur' t.e (0,0) KL,uC];have pR:(if p.aL=p.aL/\t.n*t.size<=o/\o<t.n*t.size+news.length then news[o-t.n*t.size]? else g.cJ p.aL o)=some u:=hu
  by_cases ho:o<t.n*t.size
  . rw[if_pos ho];rw[if_neg (by omega)]at pR;have:=h.cJ _ _ _ pR;rw[cell_of_row _ _ _ cur t.e (0,0) PV]at this;exact this
  . rw[if_neg ho]
    by_cases ZJ:o<t.n*t.size+news.length
    . rw[if_pos ZJ];rw[if_pos ⟨rfl,by omega,ZJ⟩]at pR;exact⟨pR,h1 u (gw pR)⟩
    . rw[if_neg (by omega)]at pR;rw[k7 o (by omega)]at pR; cases pR) (λ es c hr=>by
  have hr:g.cu p.aL=some (es,c):=hr;rw[h.po PV]at hr; cases hr) kf (h.vV (St.ml.1 ht) hp)
 obtain⟨xd,f1,f2,f3⟩:=hs.newName p k2 kf;refine⟨xd,_,f1,hle.trans f2,Gh.ml.2 ⟨p,Gh.lF _ _ _,rfl,rfl⟩,λ i u hu=>?_,f3 _ ⟨cur',KL,by rw[fH]; exact k4,qJ,k6,λ o ho=>?_⟩⟩
 . have hi:i<news.length:=by
    rcases kI i news.length with h|h
    . exact h
    . simp[vT h]at hu
   show (if _ then _ else _)=_
   rw[if_pos ⟨rfl,by omega,by omega⟩,Nat.add_sub_cancel_left]; exact hu
 . have ho:(t.n+m)*t.size<=o:=ho;show (if _ then _ else _)=_
   rw[if_neg (by omega)]; exact k7 o (by omega)
theorem bw.rename {g:Gh} {U:St} {w:World} (h:bw g U w) {b:Nat} {x:Live} {p:Place} (hb:U.live b=some x) (hp:g.place b=some p) :
 ∃ b' g',(U.del b).dL b'/\Gh.Le g g'/\g'.place b'=some p/\bw g' ((U.del b).new b' x) w:=by
 obtain⟨p',k1,k2,k3⟩:=h.live b x hb;rw[hp]at k1; cases k1;obtain⟨b',f1,f2,f3⟩:=(h.weaken (St.vw U b)).newName p k2 (λ b' x' p' h1 h2 e=>by
  simp only[St.del]at h1;split at h1
  . cases h1
  . rename_i ne; exact ne (h.apart _ _ _ _ _ _ h1 hb h2 hp e))
 exact⟨b',_,f1,f2,Gh.lF _ _ _,f3 x (k3.frame f2.r rfl (λ _=>rfl) rfl)⟩
theorem bw.pv {g:Gh} {U:St} {w:World} (h:bw g U w) (e:TypeId) (size n c:Nat) (cur:Array Value) (vs rest:List Value) (hc:cur.toList=vs++rest) (h1:∀ u∈cur.toList,u.oneCell'=true)
 (A8:vs.length=n*size) (x7:cur.size=c*size) (Hw:n<=c) (x6:c<=maxLen) :
 ∃ τ g',U.dL τ/\Gh.Le g g'/\g'.tok τ=some (w.heap.size,c)/\mY g' w.heap.size 0 vs/\bw g' (U.new τ (.tok ⟨n,e,size⟩)) (w.alloc (.cells cur e)):=by
 obtain⟨g1,Kx,pF,kf,nj,hs⟩:=h.Tl e cur vs rest hc h1;obtain⟨τ,f1,f2,f3⟩:=hs.newName ⟨w.heap.size,e,c⟩ (by rw[Kx.base]; exact h.le) (λ b' x' p' k1 k2=>by rw[nj]at k2; exact Nat.ne_of_lt (h.zp k1 k2));exact⟨τ,_,f1,Kx.trans f2,Gh.ml.2 ⟨_,Gh.lF _ _ _,rfl,rfl⟩,pF,f3 _ ⟨cur,heap_alloc_new w _,x7,Hw,x6,λ o ho=>kf o (by rw[A8]; exact ho)⟩⟩
theorem bw.freeze {g:Gh} {U:St} {w:World} (h:bw g U w) {b:Nat} {l:List AV} {x:Place} (hb:U.box b=some l) (hx:g.box b=some x) :
 ∃ g' vs,Gh.Le g g'/\g'.place=g.place/\mY g' x.aL 0 vs/\aH g l vs/\bw g' (U.del b) w:=by
 obtain⟨x',cur,vs,rest,k1,k2,k3,k4,k5,k6,k7,k8⟩:=h.box b l hb;rw[hx]at k1; cases k1;let g':Gh:={ g with cJ:=λ q o=>if q=x.aL then cur[o]? else g.cJ q o }
 have rE:∀ o,g'.cJ x.aL o=cur[o]?:=λ o=>by show (if x.aL=x.aL then _ else _)=_; rw[if_pos rfl]
 have hold:∀ q o,q≠x.aL->g'.cJ q o=g.cJ q o:=λ q o hq=>by show (if q=x.aL then _ else _)=_; rw[if_neg hq]
 have hle:Gh.Le g g':=⟨rfl,rfl,λ _ _ h=>h,λ q o u hu=>by
  rw[hold _ _ (λ e=>by subst e; rw[k8]at hu; cases hu)]; exact hu,λ _ _ h=>h,λ _ h=>h,λ q o hq=>hold _ _ (by omega),λ _ _=>rfl⟩
 refine⟨g',vs,hle,rfl,λ i u hu=>by
  have hi:i<vs.length:=by
   rcases kI i vs.length with h|h
   . exact h
   . simp[vT h]at hu
  rw[db,rE,<- mH,k5,uG hi]; exact hu,k6,?_⟩
 obtain⟨y,hy,_⟩:=St.vu hb;refine (h.weaken (St.vw U b)).change x.aL k2 hle rfl rfl ⟨rfl,rfl,rfl,bX _⟩ (λ _ _ _=>rfl) hold (λ _ _=>rfl) (λ o u hu=>?_) (λ es c hr=>?_) (λ b' x' p' h1 h2 e=>?_) (h.vV hy hx)
 . rw[rE]at hu;rw[cell_of_row _ _ _ cur x.e (0,0) k3];exact⟨hu,k7 u (gw (by rw[mH]; exact hu))⟩
 . have hr:g.cu x.aL=some (es,c):=hr;rw[h.po k3]at hr; cases hr
 . simp only[St.del]at h1;split at h1
   . cases h1
   . rename_i ne; exact ne (h.apart _ _ _ _ _ _ h1 hy h2 hx e)
theorem bw.TV {g:Gh} {U:St} {w:World} (h:bw g U w) {m r:Nat} {kv kv':List AV×List AV} {es xQ:Array MapEntry} {clock xO:Nat} (hm:U.mp m=some kv) (hg:g.mp m=some r) (hh:w.heap[r]?=some (.map es clock))
 (h1:yK g kv'.1 kv'.2 xQ) (h2:mq xQ xO) :
 bw g (U.ahz m kv') { w with heap:=w.heap.setIfInBounds r (Obj.map xQ xO) }:=by
 obtain⟨p,hp,rfl⟩:=Gh.re.1 hg;obtain⟨p',k1,k2,es0,cl0,k3,k4,k5,k6⟩:=h.live m _ (St.re.1 hm);rw[hp]at k1; cases k1;have aN:=(mG.1 hh).1;have ca:∀ k,k≠p.aL->(w.heap.setIfInBounds p.aL (Obj.map xQ xO))[k]?=w.heap[k]?:=λ k hk=>Array.getElem?_setIfInBounds_ne (Ne.symm hk);have rE:(w.heap.setIfInBounds p.aL (Obj.map xQ xO))[p.aL]?=some (Obj.map xQ xO):=by simp[aN]
 exact h.rewrite (St.re.1 hm) hp ⟨rfl,rfl,rfl,by simp⟩ (λ k hk _=>ca k hk) (λ o=>by
  cases e:g.cJ p.aL o with
  | none=>rfl
  | some u=>have:=(h.cJ _ _ _ e).1; simp[World.cell?,hh]at this) k6 ⟨xQ,xO,rE,h2,h1,k6⟩
theorem bw.shut {g:Gh} {U:St} {w:World} (h:bw g U w) {r:Nat} (hr:g.res r=true):bw { g with res:=λ x=>if x=r then false else g.res x } U { w with heap:=w.heap.setIfInBounds r (Obj.deferred none) }:=by
 obtain⟨k2,hh⟩:=h.res r hr;have ca:∀ k,k≠r->(w.heap.setIfInBounds r (Obj.deferred none))[k]?=w.heap[k]?:=λ k hk=>Array.getElem?_setIfInBounds_ne (Ne.symm hk);have hl:Gh.vq g { g with res:=λ x=>if x=r then false else g.res x }:=⟨λ _ _ h=>h,λ _ _ _ h=>h,λ _ _ h=>h⟩
 exact {
  below:=h.below.trans ⟨rfl,rfl,rfl,by simp,λ k hk=>ca k (by have:=h.le; omega)⟩
  le:=by simpa using h.le
  cJ:=λ aL o u hi=>by
   have mC:=h.cJ _ _ _ hi;have:World.cell? { w with heap:=w.heap.setIfInBounds r (Obj.deferred none) } ⟨aL,o,none⟩=w.cell? ⟨aL,o,none⟩:=by
    simp only[World.cell?];rw[ca aL (λ e=>by subst e; simp[World.cell?,hh]at mC)]
   rw[this]; exact mC
  cu:=λ r' es c hr=>by
   obtain⟨h1,h2⟩:=h.cu r' es c hr;refine⟨?_,h2⟩;show (w.heap.setIfInBounds r (Obj.deferred none))[r']?=_;rw[ca r' (λ e=>by subst e; rw[hh]at h1; cases h1)]; exact h1
  live:=λ b x hb=>by
   obtain⟨p,h1,h2,h3⟩:=h.live b x hb;exact⟨p,h1,h2,h3.frame hl (ca _ (h3.OE hh)) (λ _=>rfl) rfl⟩
  apart:=h.apart
  res:=λ r' Ac=>by
   have Ac:(if r'=r then false else g.res r')=true:=Ac
   split at Ac
   . cases Ac
   . rename_i e;obtain⟨q1,q2⟩:=h.res r' Ac;exact⟨q1,by show (w.heap.setIfInBounds r (Obj.deferred none))[r']?=_; rw[ca r' e]; exact q2⟩
  fin:=h.fin }
theorem bw.abL {g:Gh} {U:St} {w:World} (h:bw g U w):Gh.Le g { g with res:=λ x=>if x=w.heap.size then true else g.res x }/\bw { g with res:=λ x=>if x=w.heap.size then true else g.res x } U (w.alloc (.deferred (some []))):=by
 have hl:Gh.vq g { g with res:=λ x=>if x=w.heap.size then true else g.res x }:=⟨λ _ _ h=>h,λ _ _ _ h=>h,λ _ _ h=>h⟩
 refine⟨⟨rfl,rfl,λ _ _ h=>h,λ _ _ _ h=>h,λ _ _ h=>h,λ b hb=>by show (if _ then _ else _)=_; split<;>simp_all,λ _ _ _=>rfl,λ _ _=>rfl⟩,?_⟩
 have hs:=h.grow (w.grownBy_alloc (.deferred (some [])) none);exact {
  below:=hs.below
  le:=hs.le
  cJ:=hs.cJ
  cu:=hs.cu
  live:=λ b x hb=>by
   obtain⟨p,h1,h2,h3⟩:=hs.live b x hb;exact⟨p,h1,h2,h3.frame hl rfl (λ _=>rfl) rfl⟩
  apart:=hs.apart
  res:=λ r hr=>by
   have hr:(if r=w.heap.size then true else g.res r)=true:=hr
   split at hr
   . rename_i e; subst e; exact⟨h.le,heap_alloc_new w _⟩
   . exact hs.res r hr
  fin:=hs.fin }
end Go.Rip
namespace Go.Rip
open Go.RowKit
def nL:Value->Option AV
 | .bool b=>some (.bool b)
 | .int k n=>some (.int k n)
 | .string s=>some (.str s.data.toList)
 | .pointer none=>some .a8
 | .slice none 0 0=>some .ag
 | .map none=>some .kx
 | .nilFunc=>some .eA
 | .nilIface=>some .dE
 | _=>none
def Wx:Option (List AV)->AV
 | some l=>.agg l
 | none=>.any
def Hg:Value->AV
 | .agg cs=>Wx (cs.toList.mapM nL)
 | .func fn f c=>if f.isEmpty&&c.isEmpty then .func fn [] [] else .any
 | .tuple vs=>if vs.isEmpty then .aK [] else .any
 | v=>(nL v).getD .any
def F0:TypeDesc->Bool
 | .struct _|.array _ _=>true
 | _=>false
def pJ (P:Program) (t:TypeId):Option (Bool×Nat) :=
 match P.info? t,P.underlying t with
 | some i,some d=>some (F0 d,i.size)
 | _,_=>none
def rA (P:Program) (t:TypeId):Option (List AV):=((P.info? t).bind (·.zero)).bind λ z=>z.cells.toList.mapM nL
def gh (P:Program) (t:TypeId):Option (TypeId×Nat) :=
 match P.underlying t with
 | some (.slice e)=>match P.info? e with
   | some i=>match i.zero with
     | some z=>if z.cells.size=i.size/\0<i.size/\i.bytes<=32768/\z.cells.all (·.oneCell') then some (e,i.size) else none
     | none=>none
   | none=>none
 | _=>none
def AJ (P:Program) (s:TypeId) (f:Nat):Option Nat :=
 match P.underlying s with
 | some (.struct fields)=>match fields[f]? with
   | some x=>if P.cellsOf x.type≠0 then some x.offset else none
   | none=>none
 | _=>none
def Cy (P:Program) (t:TypeId):Option (List (Nat×Nat)) :=
 match P.underlying t with
 | some (.struct fields)=>if fields.all (λ f=>(P.info? f.type).isSome) then some (fields.toList.map λ f=>(f.offset,P.cellsOf f.type)) else none
 | _=>none
def fC (P:Program) (f:FuncId):Bool :=
 match P.funcs[f]? with
 | some fn=>fn.body.isSome&&!(fn.name == "runtime.NumGoroutine")
 | none=>false
structure de where
 P:Program
 AM:Nat->AV
 fixed:Nat->Option (Array Value):=λ _=>none
def jx (C:de) (g:Gh):Prop:=(∀ i,aA g (C.AM i) (.pointer (some ⟨i,0,none⟩)))/\∀ i cs,C.fixed i=some cs->i<g.base/\∃ t fr,g.w0.heap[i]?=some (.cells cs t fr)
theorem jx.mono {C:de} {g g':Gh} (h:jx C g) (hl:Gh.Le g g'):jx C g':=⟨λ i=>(h.1 i).mono hl,λ i cs hi=>by rw[hl.base,hl.w0]; exact h.2 i cs hi⟩
structure Env where
 get:Nat->AV
def Env.put (ρ:Env) (d:Nat) (v:AV):Env:=⟨λ t=>if t=d then v else ρ.get t⟩
def Env.fj (ρ:Env):Option Nat->AV->Env
 | some d,v=>ρ.put d v
 | none,_=>ρ
def Env.ev (C:de) (ρ:Env):Operand->AV
 | .tmp t=>ρ.get t
 | .const v=>Hg v
 | .global g=>C.AM g
 | .func f=>.func (.func f) [] []
def iQ (g:Gh) (ρ:Env) (tmps:Array Value):Prop:=∀ t,aA g (ρ.get t) (tmps.getD t undef)
theorem iQ.mono {g g':Gh} (h:Gh.Le g g') {ρ:Env} {tmps:Array Value} (hr:iQ g ρ tmps):iQ g' ρ tmps:=λ t=>(hr t).mono h
theorem iQ.put {g:Gh} {ρ:Env} {tmps:Array Value} (hr:iQ g ρ tmps) {d:Nat} {x:AV} {v:Value} (hd:d<tmps.size) (hx:aA g x v):iQ g (ρ.put d x) (tmps.setIfInBounds d v):=λ t=>by
 simp only[Env.put]
 by_cases ht:t=d
 . subst ht;rw[if_pos rfl];simpa [Array.getD,hd] using hx
 . rw[if_neg ht];have:=hr t;simp only[Array.getD_eq_getD_getElem?]at this ⊢;rw[Array.getElem?_setIfInBounds_ne (Ne.symm ht)];exact this
theorem Bm {g:Gh} {v:Value} {x:AV} (h:nL v=some x):aA g x v/\v.oneCell'=true:=by
 unfold nL at h;split at h<;>first
  | (cases h; simp[aA,Value.oneCell']; done)
  | cases h
theorem fE {g:Gh}:∀ {vs:List Value} {l:List AV},vs.mapM nL=some l->aH g l vs/\∀ u∈vs,u.oneCell'=true
 | [],l,h=>by
   simp at h; subst h; simp[aH]
 | v::vs,l,h=>by
   simp only[List.mapM_cons,bind,Option.bind_eq_some_iff,pure,iI]at h;obtain⟨x,hx,l',qW,rfl⟩:=h;obtain⟨h1,h2⟩:=Bm (g:=g) hx;obtain⟨h3,h4⟩:=fE (g:=g) qW;refine⟨by simp only[aH]; exact⟨v,vs,rfl,h1,h3⟩,λ u hu=>?_⟩;simp only[cK]at hu;rcases hu with rfl|hu
   . exact h2
   . exact h4 u hu
theorem QR {g:Gh} (v:Value):aA g ((nL v).getD .any) v:=by
 cases h:nL v with
 | none=>simp only[Option.getD_none,aA]
 | some x=>exact (Bm h).1
theorem F7 {g:Gh} (v:Value):aA g (Hg v) v:=by
 cases v with
 | agg cs =>
   simp only[Hg];cases h:cs.toList.mapM nL with
   | none=>simp only[Wx,aA]
   | some l=>simp only[Wx,aA]; exact⟨cs.toList,by simp,(fE (g:=g) h).2,(fE h).1⟩
 | func fn f c =>
   simp only[Hg];split
   . rename_i h;simp only[cb,Array.isEmpty_iff]at h;obtain⟨rfl,rfl⟩:=h;simp only[aA]; exact⟨[],[],rfl,by simp[aH],by simp[aH]⟩
   . simp only[aA]
 | tuple vs =>
   simp only[Hg];split
   . rename_i h;simp only[Array.isEmpty_iff]at h;subst h;simp only[aA]; exact⟨[],rfl,by simp[aH]⟩
   . simp only[aA]
 | _=>simp only[Hg]; exact QR _
theorem vB {C:de} {g:Gh} (hG:jx C g) {ρ:Env} {a:Act} (hr:iQ g ρ a.tmps) (x:Operand):aA g (ρ.ev C x) (a.eval x):=by
 cases x with
 | tmp t=>exact hr t
 | const v=>exact F7 v
 | global i=>exact hG.1 i
 | func f=>simp only[Env.ev,Act.eval,aA]; exact⟨[],[],rfl,by simp[aH],by simp[aH]⟩
inductive NV where
 | box
 | tok (n:Nat) (l:List AV)
 | ms (n j9:Nat) (e:TypeId)
 | mp
 | it
def NV.at (b:Nat):NV->AV
 | .box=>.box b 0
 | .tok n l=>.vec n (.own b) l
 | .ms n j9 e=>.ms b 0 n j9 e
 | .mp=>.mp b
 | .it=>.it b
inductive aC where
 | val (v:AV)
 | jG (v:AV) (b:Nat) (x:Live)
 | new (k:NV) (del:Option Nat) (x:Live)
 | nf (b:Nat) (l:List (AV×Live))
 | enter (f:FuncId) (args:List AV)
 | yield (l:Nat) (args:List AV)
 | panic (v:AV)
 | cond (p:Prop) [d:Decidable p] (r:aC)
 | bad
abbrev aC.cL (l:List AV):aC:=.new .box none (.box l)
abbrev aC.pv (n:Nat) (l:List AV) (del:Option Nat) (t:Tok):aC:=.new (.tok n l) del (.tok t)
abbrev aC.qx (n j9:Nat) (e:TypeId) (del:Option Nat) (l:List AV):aC:=.new (.ms n j9 e) del (.box l)
abbrev aC.wP:aC:=.new .mp none (.mp [] [])
def St.so (U:St):Option Nat->St
 | some b=>U.del b
 | none=>U
def aC.Fits (C:de) (g:Gh) (U:St):aC->Result Next->Prop
 | .val v,res=>∃ u w' g',(res=.ok (.value u) w'\/(res=.ok .skip w'/\u=undef))/\Gh.Le g g'/\bw g' U w'/\aA g' v u
 | .jG v b x,res=>∃ u w' g',(res=.ok (.value u) w'\/(res=.ok .skip w'/\u=undef))/\Gh.Le g g'/\bw g' (U.set b x) w'/\aA g' v u
 | .new k del x,res=>∃ u w' g' b,res=.ok (.value u) w'/\(U.so del).dL b/\Gh.Le g g'/\bw g' ((U.so del).new b x) w'/\aA g' (k.at b) u
 | .nf b l,res=>∃ u w' g' v x,res=.ok (.value u) w'/\(v,x)∈l/\Gh.Le g g'/\bw g' (U.set b x) w'/\aA g' v u
 | .enter f args,res=>∃ vs w',res=.ok (.enter f (List.toArray vs)) w'/\bw g U w'/\aH g args vs
 | .yield o args,res=>∃ vs x w w',g.place o=some x/\res=(Instr.yield x.aL (List.toArray vs)).run C.P w/\w'=w/\bw g U w/\aH g args vs
 | .panic v,res=>∃ u w',res=.halt (.panic u) w'/\bw g U w'/\aA g v u
 | @aC.cond p _ r,res=>p->r.Fits C g U res
 | .bad,_=>True
theorem bj {C:de} {g:Gh} {U:St} {w:World} {v:AV} {u:Value} (h:bw g U w) (hr:aA g v u):aC.Fits C g U (.val v) (.ok (.value u) w) :=
 ⟨u,w,g,.inl rfl,Gh.Le.refl g,h,hr⟩
def wh (n:Int):Prop:=-9223372036854775808<=n/\n<=9223372036854775807
instance (n:Int):Decidable (wh n):=inferInstanceAs (Decidable (_/\_))
theorem zR {n:Int} (h:wh n):IntKind.i64.wrap n=n:=by
 obtain⟨h1,h2⟩:=h;have e:IntKind.i64.wrap n=if n%18446744073709551616>=9223372036854775808 then n%18446744073709551616-18446744073709551616 else n%18446744073709551616:=by
  simp[IntKind.wrap,IntKind.bits,IntKind.signed]
 rw[e];split<;>omega
def yi (P:Program) (t:TypeId):Bool:=match P.underlying t with|some .bool=>true|_=>false
def mE (P:Program) (t:TypeId):Bool:=match P.underlying t with|some (.interface _)=>true|_=>false
def oq (P:Program) (t:TypeId):Bool:=match P.underlying t with|some (.pointer _)=>true|_=>false
def rG (P:Program) (t:TypeId):Bool:=match P.underlying t with|some (.slice _)=>true|_=>false
def jS (k:IntKind) (n:Int):aC :=
 match k with
 | .i64=>.cond (wh n) (.val (.int .i64 n))
 | k=>.val (.int k (k.wrap n))
inductive FK where
 | i
 | s
 | b
def qF:List FK->List AV->List AV->Option Bool
 | [],[],[]=>some true
 | .i::ks,.int k a::xs,.int k' b::ys=>if k=k' then (qF ks xs ys).map λ r=>(a==b)&&r else none
 | .s::ks,.str a::xs,.str b::ys=>(qF ks xs ys).map λ r=>(a==b)&&r
 | .b::ks,.bool a::xs,.bool b::ys=>(qF ks xs ys).map λ r=>(a==b)&&r
 | _,_,_=>none
def R6 (P:Program) (f:Field) (i:Nat):Option FK :=
 if f.offset=i/\f.name ≠ "_" then
  match P.underlying f.type with
  | some .bool=>some .b
  | some (.int _)=>some .i
  | some .string=>some .s
  | _=>none
 else none
def xR (P:Program):List Field->Nat->Option (List FK)
 | [],_=>some []
 | f::fs,i=>match R6 P f i,xR P fs (i+1) with
   | some k,some ks=>some (k::ks)
   | _,_=>none
def PI (P:Program) (t:TypeId):Option (List FK) :=
 match P.underlying t with
 | some (.struct fields)=>if P.stoodInHeld t=false/\P.eqGuardType P.depth t=false then xR P fields.toList 0 else none
 | _=>none
def NJ (P:Program) (t:TypeId) (a b:List AV):Option Bool :=
 match PI P t with
 | some ks=>qF ks a b
 | none=>none
def xH (f:Bool->AV):Option Bool->aC
 | some r=>.val (f r)
 | none=>.bad
def Pn (P:Program) (op:BinOp) (t:TypeId) (x y:AV):aC :=
 match op,x,y with
 | .add,.int k a,.int k' b=>if k=k' then jS k (a+b) else .bad
 | .sub,.int k a,.int k' b=>if k=k' then jS k (a-b) else .bad
 | .mul,.int k a,.int k' b=>if k=k' then jS k (a*b) else .bad
 | .quo,.int k a,.int k' b=>if k=k' then .cond (b≠0) (jS k (a.tdiv b)) else .bad
 | .rem,.int k a,.int k' b=>if k=k' then .cond (b≠0) (.val (.int k (a.tmod b))) else .bad
 | .and,.int k a,.int k' b=>if k=k' then .val (.int k (k.wrap (BitVec.ofInt k.bits a &&& BitVec.ofInt k.bits b).toNat)) else .bad
 | .or,.int k a,.int k' b=>if k=k' then .val (.int k (k.wrap (BitVec.ofInt k.bits a ||| BitVec.ofInt k.bits b).toNat)) else .bad
 | .eql,.int k a,.int k' b=>if k=k' then .val (.bool (a==b)) else .bad
 | .neq,.int k a,.int k' b=>if k=k' then .val (.bool (a != b)) else .bad
 | .lss,.int k a,.int k' b=>if k=k' then .val (.bool (decide (a<b))) else .bad
 | .leq,.int k a,.int k' b=>if k=k' then .val (.bool (decide (a<=b))) else .bad
 | .gtr,.int k a,.int k' b=>if k=k' then .val (.bool (decide (a > b))) else .bad
 | .geq,.int k a,.int k' b=>if k=k' then .val (.bool (decide (a>=b))) else .bad
 | .eql,.str a,.str b=>.val (.bool (a==b))
 | .neq,.str a,.str b=>.val (.bool (a != b))
 | .add,.str a,.str b=>.cond (a.length+b.length<=4294967296) (.val (.str (a++b)))
 | .eql,.bool a,.bool b=>if yi P t=true then .val (.bool (a==b)) else .bad
 | .neq,.bool a,.bool b=>if yi P t=true then .val (.bool (a != b)) else .bad
 | .eql,.agg a,.agg b=>xH .bool (NJ P t a b)
 | .neq,.agg a,.agg b=>xH (λ r=>.bool (!r)) (NJ P t a b)
 | .eql,.iface _ _,.dE=>if mE P t=true then .val (.bool false) else .bad
 | .neq,.iface _ _,.dE=>if mE P t=true then .val (.bool true) else .bad
 | .eql,.a8,.a8=>if oq P t=true then .val (.bool true) else .bad
 | .eql,.box _ _,.a8=>if oq P t=true then .val (.bool false) else .bad
 | .neq,.a8,.a8=>if oq P t=true then .val (.bool false) else .bad
 | .neq,.box _ _,.a8=>if oq P t=true then .val (.bool true) else .bad
 | .eql,.da _,.a8=>if oq P t=true then .val (.bool false) else .bad
 | .neq,.da _,.a8=>if oq P t=true then .val (.bool true) else .bad
 | .eql,.ag,.ag=>if rG P t=true then .val (.bool true) else .bad
 | .eql,.vec _ _ _,.ag=>if rG P t=true then .val (.bool false) else .bad
 | .eql,.ms _ _ _ _ _,.ag=>if rG P t=true then .val (.bool false) else .bad
 | _,_,_=>.bad
def isLit:Operand->Bool
 | .const _=>true
 | _=>false
def JN (P:Program) (op:BinOp) (t:TypeId) (lit:Bool) (x y:AV):aC :=
 match op,x,y with
 | .eql,.dE,.dE=>if mE P t=true/\lit=true then .val (.bool true) else .bad
 | .neq,.dE,.dE=>if mE P t=true/\lit=true then .val (.bool false) else .bad
 | op,x,y=>Pn P op t x y
end Go.Rip
namespace Go.Rip
open Go.RowKit
def AV.scalar:AV->Bool
 | .agg _|.aK _|.any=>false
 | _=>true
def av:AV->List AV
 | .agg l=>l
 | v=>[v]
theorem GK {g:Gh} {x:AV} {v:Value} (h:aA g x v) (hs:x.scalar=true):v.oneCell'=true:=by
 cases x<;>simp only[AV.scalar,bZ]at hs<;>simp only[aA]at h
 all_goals first
  | (subst h; rfl)
  | (obtain⟨_,_,rfl⟩:=h; rfl)
  | (obtain⟨_,_,_,rfl,_⟩:=h; rfl)
  | (obtain⟨_,_,_,_,rfl,_⟩:=h; rfl)
  | (obtain⟨_,_,_,rfl,_⟩:=h; rfl)
  | (obtain⟨_,_,rfl,_⟩:=h; rfl)
  | (obtain⟨_,rfl,_⟩:=h; rfl)
  | (obtain⟨_,_,_,_,rfl,_⟩:=h; rfl)
def AV.dw:AV->Bool
 | .aK _|.any=>false
 | _=>true
theorem AA {g:Gh} {x:AV} {v:Value} (h:aA g x v) (hs:x.dw=true):aH g (av x) v.cells.toList/\∀ u∈v.cells.toList,u.oneCell'=true:=by
 by_cases ha:∃ l,x=.agg l
 . obtain⟨l,rfl⟩:=ha;simp only[aA]at h;obtain⟨vs,rfl,h1,h2⟩:=h;exact⟨by simpa [av,Value.cells] using h2,by simpa [Value.cells] using h1⟩
 . have ZR:x.scalar=true:=by cases x<;>simp_all [AV.dw,AV.scalar]
   have h1:=GK h ZR;have hc:av x=[x]:=by cases x<;>simp_all [av]
   have hv:v.cells=#[v]:=by cases v<;>simp_all [Value.cells,Value.oneCell']
   rw[hc,hv];exact⟨by simp only[aH]; exact⟨v,[],rfl,h,rfl⟩,by simpa using h1⟩
def od (U:St):AV->Option (List AV)
 | .box b off=>(U.box b).map (·.drop off)
 | .da l=>some l
 | _=>none
theorem tU {g:Gh} {U:St} {w:World} (h:bw g U w) {p:AV} {v:Value} {l:List AV} (hp:aA g p v) (hl:od U p=some l) :
 ∃ a vs,v=.pointer (some a)/\a.spot=none/\aH g l vs/\∀ j u,vs[j]?=some u->w.cell? (a.add j)=some u/\u.oneCell'=true:=by
 have mA:∀ aL off j,(⟨aL,off,none⟩:Addr).add j=⟨aL,off+j,none⟩:=λ aL off j=>by unfold Addr.add; split<;>simp_all
 cases p<;>simp only[od,reduceCtorEq]at hl
 . rename_i b off;cases hb:U.box b with
   | none=>simp[hb]at hl
   | some l0 =>
     simp[hb]at hl;subst hl;simp only[aA]at hp;obtain⟨x,hx,rfl⟩:=hp;obtain⟨x',cur,vs,rest,k1,k2,k3,k4,k5,k6,k7,k8⟩:=h.box b l0 hb;rw[hx]at k1; cases k1;refine⟨⟨x.aL,off,none⟩,vs.drop off,rfl,rfl,k6.drop off,λ j u hu=>?_⟩;rw[mA,cell_of_row _ _ _ cur x.e (0,0) k3];rw[List.getElem?_drop]at hu;have aN:off+j<vs.length:=by
      rcases kI (off+j) vs.length with h|h
      . exact h
      . simp[vT h]at hu
     have:cur[off+j]?=some u:=by rw[<- mH,k5,uG aN]; exact hu
     exact⟨this,k7 u (gw (by rw[mH]; exact this))⟩
 . cases hl;simp only[aA]at hp;obtain⟨aL,off,vs,rfl,hi,hr⟩:=hp;exact⟨⟨aL,off,none⟩,vs,rfl,rfl,hr,λ j u hu=>by rw[mA]; exact h.cJ _ _ _ (hi j u hu)⟩
def jH:List AV->aC
 | x::_=>.val x
 | []=>.bad
def wJ (P:Program) (t:TypeId) (p:AV) (U:St):aC :=
 match pJ P t,od U p with
 | some (true,sz),some l=>.cond (sz<=l.length) (.val (.agg (l.take sz)))
 | some (false,_),some l=>jH l
 | _,_=>.bad
theorem qp {P:Program} {t:TypeId} {b:Bool} {sz:Nat} (h:pJ P t=some (b,sz)) :
 ∃ i d,P.info? t=some i/\P.underlying t=some d/\F0 d=b/\i.size=sz:=by
 unfold pJ at h;split at h
 . rename_i i d hi hd;simp only[iI,hY]at h;exact⟨i,d,hi,hd,h.1,h.2⟩
 . cases h
theorem nv {P:Program} {t:TypeId} {d:TypeDesc} (h:P.underlying t=some d) (w:World):(isAgg t).run P w=.ok (F0 d) w:=by
 simp only[isAgg,cF,run_underlying h,cU];cases d<;>rfl
theorem fF {P:Program} {t:TypeId} {i:TypeInfo} (h:P.info? t=some i) (w:World):(sizeOf t).run P w=.ok i.size w:=by
 simp[sizeOf,typeInfo,h]
section
variable {C:de} {g:Gh} {U:St} {w:World}
theorem Qq (h:bw g U w) {t:TypeId} {p:AV} {v:Value} (hp:aA g p v):aC.Fits C g U (wJ C.P t p U) ((do let x <- Instr.loadAt t v; pure (Next.value x):Sem Next).run C.P w):=by
 unfold wJ;split
 . rename_i b sz l hv hl;obtain⟨i,d,hi,hd,hb,fH⟩:=qp hv;obtain⟨a,vs,rfl,ha,hr,hc⟩:=tU h hp hl;intro hle;have hlen:=hr.length;have je:(loadCells a (vs.take sz).length).run C.P w=.ok (vs.take sz).toArray w :=
    run_loadCells_list (P:=C.P) w a (vs.take sz) λ j u hu=>by
     rw[List.getElem?_take]at hu;split at hu
     . exact (hc j u hu).1
     . cases hu
   have pP:(vs.take sz).length=sz:=by simp; omega
   rw[pP]at je;simp only[Instr.loadAt,Instr.sureAddr,loadVar,cF,cZ,cU,nv hd,hb,if_true,fF hi,fH,je,fX];have Se:∀ u∈vs.take sz,u.oneCell'=true:=λ u hu=>by
    obtain⟨j,hj⟩:=List.getElem?_of_mem hu;rw[List.getElem?_take]at hj;split at hj
    . exact (hc j u hj).2
    . cases hj
   exact bj h (by simp only[aA]; exact⟨_,rfl,Se,hr.take sz⟩)
 . rename_i b sz l hv hl;obtain⟨i,d,hi,hd,hb,fH⟩:=qp hv;obtain⟨a,vs,rfl,ha,hr,hc⟩:=tU h hp hl;cases l with
   | nil=>trivial
   | cons x xs =>
     simp only[aH]at hr;obtain⟨u,us,rfl,h1,h2⟩:=hr;have:=(hc 0 u rfl).1;have h0:a.add 0=a:=by simp[Addr.add]
     rw[h0]at this;simp only[Instr.loadAt,Instr.sureAddr,loadVar,cF,cZ,cU,nv hd,hb,bZ,if_false,run_load,this,fX];exact bj h h1
 . trivial
def ay (l:List AV) (off:Nat) (cs:List AV):List AV:=l.take off++cs++l.drop (off+cs.length)
def Md (P:Program) (t:TypeId) (p v:AV) (U:St):aC :=
 match pJ P t,p with
 | some (_,sz),.box b off=>match U.box b with
   | some l=>.cond (v.dw=true/\(av v).length=sz/\off+sz<=l.length) (.jG (.aK []) b (.box (ay l off (av v))))
   | none=>.bad
 | _,_=>.bad
theorem yr (h:bw g U w) {b off:Nat} {l:List AV} {x:Place} (hb:U.box b=some l) (hx:g.box b=some x) {cs:List AV} {us:List Value} (hr:aH g cs us) (h1:∀ u∈us,u.oneCell'=true)
 (qJ:off+cs.length<=l.length):∃ w',(storeCells ⟨x.aL,off,none⟩ us).run C.P w=.ok () w'/\bw g (U.cx b (ay l off cs)) w':=by
 obtain⟨x',cur,vs,rest,k1,k2,k3,k4,k5,k6,k7,k8⟩:=h.box b l hb;rw[hx]at k1; cases k1;have Hu:=hr.length;have pP:=k6.length;have fH:cur.size=vs.length+rest.length:=by rw[<- uH,k5,cO]
 have je:=run_storeCells_at C.P x.aL off x.e us 0 cur w k3 (by omega) h1;simp only[Nat.add_zero]at je;refine⟨_,je,?_⟩;have e:cur.toList.take off++us++cur.toList.drop (off+us.length)=(vs.take off++us++vs.drop (off+us.length))++rest:=by
  rw[k5,List.take_append_of_le_length (by omega),List.drop_append_of_le_length (by omega)];simp
 refine h.setRow hb hx _ (vs.take off++us++vs.drop (off+us.length)) rest ?_ (by simpa using e) ?_ ?_
 . rw[<- uH];have:=congrArg List.length e;simp only[cO,List.length_take,List.length_drop]at this;simp only[cO,List.length_take,List.length_drop,uH]at this ⊢;omega
 . unfold ay;rw[Hu];exact ((k6.take off).append hr).append (k6.drop _)
 . intro u hu;simp only[fT]at hu;rcases hu with (hu|hu)|hu
   . exact k7 u (List.mem_of_mem_take hu)
   . exact h1 u hu
   . exact k7 u (List.mem_of_mem_drop hu)
theorem Nn (h:bw g U w) {t:TypeId} {p x:AV} {v u:Value} (hp:aA g p v) (hx:aA g x u):aC.Fits C g U (Md C.P t p x U) ((do Instr.storeAt t v u; pure Next.skip:Sem Next).run C.P w):=by
 unfold Md;split
 . rename_i bb sz b off hv;split
   . rename_i l hb;rintro⟨h1,h2,h3⟩;obtain⟨i,d,hi,hd,_,fH⟩:=qp hv;obtain⟨vF,x5⟩:=AA hx h1;simp only[aA]at hp;obtain⟨y,hy,rfl⟩:=hp;obtain⟨w',je,hs⟩:=yr (C:=C) h hb hy vF x5 (by rw[h2]; exact h3);have hlen:u.cells.size=sz:=by rw[<- uH,vF.length]; exact h2
     simp only[Instr.storeAt,Instr.sureAddr,storeVar,cF,cZ,cU,fF hi,fH,hlen,ne_eq,not_true_eq_false,if_false,fX,je];exact⟨undef,w',g,.inr ⟨rfl,rfl⟩,Gh.Le.refl g,hs,by simp only[aA]; exact⟨[],rfl,by simp[aH]⟩⟩
   . trivial
 . trivial
def JF (t:TypeId):List AV->aC
 | [.a8,.ag]=>.new .box none (.uS t [.a8,.ag])
 | l=>.cL l
def JE (P:Program) (t:TypeId):aC :=
 match rA P t with
 | some l=>JF t l
 | none=>.bad
theorem pj {P:Program} {t:TypeId} {l:List AV} (hz:rA P t=some l):∃ i z,P.info? t=some i/\i.zero=some z/\z.cells.toList.mapM nL=some l:=by
 unfold rA at hz;cases hi:P.info? t with
 | none=>simp[hi]at hz
 | some i =>
   cases vJ:i.zero with
   | none=>simp[hi,vJ]at hz
   | some z=>simp[hi,vJ]at hz; exact⟨i,z,rfl,vJ,hz⟩
theorem iJ {P:Program} {t:TypeId} {i:TypeInfo} {z:Value} (hi:P.info? t=some i) (hz:i.zero=some z) (w:World):(zeroValue t).run P w=.ok z w:=by
 simp[zeroValue,typeInfo,hi,hz]
theorem C7 (h:bw g U w) (e:TypeId) {l:List AV} {cur:Array Value} (hl:aH g l cur.toList) (h1:∀ u∈cur.toList,u.oneCell'=true) :
 aC.Fits C g U (.cL l) (.ok (.value (.pointer (some ⟨w.heap.size,0,none⟩))) (w.alloc (.cells cur e))):=by
 obtain⟨b,g',hb,hle,hx,hs⟩:=h.cL e cur cur.toList [] l (by simp) hl h1;exact⟨_,_,g',b,rfl,hb,hle,hs,by simp only[NV.at,aA]; exact⟨_,hx,rfl⟩⟩
theorem MB (h:bw g U w) {t:TypeId}:aC.Fits C g U (JE C.P t) ((do let x <- Instr.alloc t true (.tuple #[]); pure (Next.value x):Sem Next).run C.P w):=by
 unfold JE;split
 . rename_i l hz;obtain⟨i,z,hi,vJ,hm⟩:=pj hz;obtain⟨h1,h2⟩:=fE (g:=g) hm;simp only[Instr.alloc,newVar,newRow,cF,cZ,cU,iJ hi vJ,run_newObj];unfold JF;split
   . have hlen:=h1.length;obtain⟨b,g',hb,hle,hx,hs⟩:=h.vN (.cells z.cells t) t z.cells.size (.uS t [.a8,.ag]) λ g' hle hi hm=>⟨rfl,by simpa using hlen,z.cells,z.cells.toList,[],heap_alloc_new w _,rfl,by simp,h1.mono hle,h2,hi⟩;exact⟨_,_,g',b,rfl,hb,hle,hs,by simp only[NV.at,aA]; exact⟨_,hx,rfl⟩⟩
   . exact C7 h t h1 h2
 . trivial
def fL (v:AV):aC:=.cond (v.dw=true) (.cL (av v))
theorem RF (h:bw g U w) {t:TypeId} {x:AV} {u:Value} (hx:aA g x u):aC.Fits C g U (fL x) ((do let y <- Instr.box t u; pure (Next.value y):Sem Next).run C.P w):=by
 intro hl;obtain⟨h1,h2⟩:=AA hx hl;simp only[Instr.box,newVar,newRow,cF,cZ,cU,run_newObj];exact C7 h t h1 h2
def aZ (x:AV):aC :=
 match x with
 | .box _ _|.da _|.func (.func _) _ _=>.val x
 | _=>.bad
def yR (P:Program) (s:TypeId) (p:AV) (f:Nat):aC :=
 match AJ P s f,p with
 | some o,.box b off=>.val (.box b (off+o))
 | some o,.da l=>.val (.da (l.drop o))
 | _,_=>.bad
theorem MQ {P:Program} {s:TypeId} {f o:Nat} (h:AJ P s f=some o):∃ fs x,P.underlying s=some (.struct fs)/\fs[f]?=some x/\P.cellsOf x.type≠0/\x.offset=o:=by
 unfold AJ at h;split at h
 . rename_i fs hu;split at h
   . rename_i x hx;split at h
     . rename_i hc; cases h; exact⟨fs,x,hu,hx,hc,rfl⟩
     . cases h
   . cases h
 . cases h
theorem y1 {aL off n:Nat} {vs:List Value} (h:mY g aL off vs):mY g aL (off+n) (vs.drop n):=λ i u hu=>by
 rw[List.getElem?_drop]at hu;have:=h (n+i) u hu;rwa [Nat.add_assoc]
theorem Ep (h:bw g U w) {s f:Nat} {p:AV} {v:Value} (hp:aA g p v):aC.Fits C g U (yR C.P s p f) ((do let x <- Instr.fieldAt s v f; pure (Next.value x):Sem Next).run C.P w):=by
 have mA:∀ aL off j,(⟨aL,off,none⟩:Addr).add j=⟨aL,off+j,none⟩:=λ aL off j=>by unfold Addr.add; split<;>simp_all
 have key:∀ (o:Nat) (aL off:Nat),AJ C.P s f=some o->v=.pointer (some ⟨aL,off,none⟩) ->
  ((do let x <- Instr.fieldAt s v f; pure (Next.value x):Sem Next).run C.P w)=.ok (.value (.pointer (some ⟨aL,off+o,none⟩))) w:=λ o aL off ho hv=>by
  obtain⟨fs,x,hu,hx,hc,rfl⟩:=MQ ho;subst hv;obtain⟨i,hi,hic⟩:∃ i,C.P.info? x.type=some i/\i.size=C.P.cellsOf x.type:=by
   cases hi:C.P.info? x.type with
   | none=>simp[Program.cellsOf,hi]at hc
   | some i=>exact⟨i,rfl,by simp[Program.cellsOf,hi]⟩
  simp only[Instr.fieldAt,cF,cZ,cU,run_underlying hu,hx,Instr.sureAddr,fieldPlace,fF hi,hic,if_neg hc,fX,mA]
 unfold yR;split
 . rename_i o b off ho;simp only[aA]at hp;obtain⟨x,hx,hv⟩:=hp;rw[key o x.aL off ho hv];exact bj h (by simp only[aA]; exact⟨x,hx,rfl⟩)
 . rename_i o l ho;simp only[aA]at hp;obtain⟨aL,off,vs,hv,hi,hr⟩:=hp;rw[key o aL off ho hv];exact bj h (by simp only[aA]; exact⟨aL,off+o,vs.drop o,rfl,y1 hi,hr.drop o⟩)
 . trivial
theorem jO {P:Program} {t e:TypeId} {sz:Nat} (h:gh P t=some (e,sz)) :
 ∃ i z,P.underlying t=some (.slice e)/\P.info? e=some i/\i.zero=some z/\z.cells.size=sz/\i.size=sz/\0<sz/\i.bytes<=32768/\(∀ u∈z.cells.toList,u.oneCell'=true):=by
 unfold gh at h;split at h
 . rename_i e' hu;split at h
   . rename_i i hi;split at h
     . rename_i z hz;split at h
       . rename_i hc;simp only[iI,hY]at h;obtain⟨rfl,rfl⟩:=h;refine⟨i,z,hu,hi,hz,hc.1,rfl,hc.2.1,hc.2.2.1,λ u hu=>?_⟩;have:=hc.2.2.2;rw[Array.all_eq_true_iff_forall_mem]at this;exact this u (by simpa using hu)
       . cases h
     . cases h
   . cases h
 . cases h
def xg (P:Program) (t:TypeId):Option (Nat×TypeId×Nat) :=
 match P.underlying t with
 | some (.array n e)=>match P.info? e with
   | some i=>some (n,e,i.size)
   | none=>none
 | _=>none
theorem wi {P:Program} {t e:TypeId} {n sz:Nat} (h:xg P t=some (n,e,sz)):∃ i,P.underlying t=some (.array n e)/\P.info? e=some i/\i.size=sz:=by
 unfold xg at h;split at h
 . rename_i n' e' hu;split at h
   . rename_i i hi;simp only[iI,hY]at h;obtain⟨rfl,rfl,rfl⟩:=h;exact⟨i,hu,hi,rfl⟩
   . cases h
 . cases h
def Rq (P:Program) (t:TypeId) (x i:AV):aC :=
 match xg P t,x,i with
 | some (n,_,sz),.da l,.int _ j=>.cond (0<=j/\j<n) (.val (.da (l.drop (j.toNat*sz))))
 | some (n,_,sz),.box b off,.int _ j=>.cond (0<=j/\j<n) (.val (.box b (off+j.toNat*sz)))
 | _,_,_=>.bad
def y2 (P:Program) (t:TypeId) (x i:AV):aC :=
 match gh P t,x,i with
 | none,x,i=>Rq P t x i
 | some (_,sz),.vec n _ l,.int _ j=>.cond (0<=j/\j<n) (.val (.da (l.drop (j.toNat*sz))))
 | some (_,sz),.ms b off n j9 _,.int _ j=>.cond (0<=j/\j<n/\j9=sz) (.val (.box b (off+j.toNat*sz)))
 | _,_,_=>.bad
theorem EN (h:bw g U w) {t:TypeId} {x y:AV} {v u:Value} (hx:aA g x v) (hy:aA g y u):aC.Fits C g U (y2 C.P t x y) ((do let x <- Instr.indexAt t v u; pure (Next.value x):Sem Next).run C.P w):=by
 have mA:∀ aL off j,(⟨aL,off,none⟩:Addr).add j=⟨aL,off+j,none⟩:=λ aL off j=>by unfold Addr.add; split<;>simp_all
 have key:∀ (e:TypeId) (sz:Nat) (aL off n c:Nat) (k:IntKind) (j:Int),gh C.P t=some (e,sz)->v=.slice (some ⟨aL,off,none⟩) n c->u=.int k j->0<=j->j<n ->
  ((do let x <- Instr.indexAt t v u; pure (Next.value x):Sem Next).run C.P w)=.ok (.value (.pointer (some ⟨aL,off+j.toNat*sz,none⟩))) w:=λ e sz aL off n c k j ho hv hu h0 h1=>by
  obtain⟨i,z,pR,hi,hz,_,fH,_⟩:=jO ho;subst hv hu;simp only[Instr.indexAt,asIntOf,cF,cZ,cU,run_underlying pR,h0,h1,and_self,if_true,fX,fF hi,fH,mA]
 unfold y2;split
 . unfold Rq;split
   . rename_i n e sz l k j ha;rintro⟨h0,h1⟩;obtain⟨i,pR,hi,fH⟩:=wi ha;simp only[aA]at hx hy;obtain⟨aL,off,vs,rfl,mC,hr⟩:=hx;subst hy;simp only[Instr.indexAt,asIntOf,cF,cZ,cU,run_underlying pR,Instr.sureAddr,h0,h1,and_self,if_true,fX,fF hi,fH,mA];exact bj h (by simp only[aA]; exact⟨aL,_,_,rfl,y1 mC,hr.drop _⟩)
   . rename_i n e sz b off k j ha;rintro⟨h0,h1⟩;obtain⟨i,pR,hi,fH⟩:=wi ha;simp only[aA]at hx hy;obtain⟨x,hb,rfl⟩:=hx;subst hy;simp only[Instr.indexAt,asIntOf,cF,cZ,cU,run_underlying pR,Instr.sureAddr,h0,h1,and_self,if_true,fX,fF hi,fH,mA];exact bj h (by simp only[aA]; exact⟨x,hb,rfl⟩)
   . trivial
 . rename_i e sz n cap l k j hs;rintro⟨h0,h1⟩;simp only[aA]at hx hy;obtain⟨aL,off,c,vs,hv,_,_,_,hi,hr⟩:=hx;rw[key e sz aL off n c k j hs hv hy h0 h1];exact bj h (by simp only[aA]; exact⟨aL,_,_,rfl,y1 hi,hr.drop _⟩)
 . rename_i e sz b off n j9 e' k j hs;rintro⟨h0,h1,rfl⟩;simp only[aA]at hx hy;obtain⟨x,c,hb,hv,_⟩:=hx;rw[key e j9 x.aL off n c k j hs hv hy h0 h1];exact bj h (by simp only[aA]; exact⟨x,hb,rfl⟩)
 . trivial
def pq (P:Program) (t:TypeId):Bool:=match P.underlying t with|some .string=>true|_=>false
def EM (P:Program) (t:TypeId) (x i:AV):aC :=
 match x,i with
 | .str s,.int _ j=>if pq P t=true then .cond (0<=j/\j<s.length) (.val (.int .u8 (s.getD j.toNat 0).toNat)) else .bad
 | .agg l,.int _ j=>match xg P t with
   | some (n,e,sz)=>match pJ P e with
     | some (false,_)=>.cond (0<=j/\j<n) (jH (l.drop (j.toNat*sz)))
     | some (true,k)=>.cond (0<=j/\j<n/\k=sz/\j.toNat*sz+sz<=l.length) (.val (.agg ((l.drop (j.toNat*sz)).take sz)))
     | none=>.bad
   | none=>.bad
 | _,_=>.bad
theorem ra {P:Program} {t:TypeId} (h:pq P t=true):P.underlying t=some .string:=by
 unfold pq at h;split at h
 . assumption
 . cases h
theorem MW (h:bw g U w) {t:TypeId} {x y:AV} {v u:Value} (hx:aA g x v) (hy:aA g y u):aC.Fits C g U (EM C.P t x y) ((do let x <- Instr.index t v u; pure (Next.value x):Sem Next).run C.P w):=by
 unfold EM;split
 . rename_i s k j;split
   . rename_i ht;rintro⟨h0,h1⟩;simp only[aA]at hx hy;subst hx hy;have hj:j.toNat<s.length:=by omega
     have e:(ByteArray.mk s.toArray)[j.toNat]?=some (s.getD j.toNat 0):=by
      have fH:(ByteArray.mk s.toArray).size=s.length:=by simp[ByteArray.size]
      rw[getElem?_pos _ _ (by rw[fH]; exact hj)];simp[oC,qM hj];rfl
     simp only[Instr.index,asIntOf,cF,cZ,cU,run_underlying (ra ht),h0,if_true,e];exact bj h (by simp only[aA])
   . trivial
 . rename_i l k j;split
   . rename_i n e sz ha;obtain⟨i,pR,hi,fH⟩:=wi ha;simp only[aA]at hx hy;subst hy;obtain⟨vs,rfl,Se,hr⟩:=hx;split
     . rename_i sz' hv;obtain⟨i',d,mC,hd,hb,_⟩:=qp hv;rintro⟨h0,h1⟩;cases hl:l.drop (j.toNat*sz) with
       | nil=>trivial
       | cons z zs =>
         have hz:l[j.toNat*sz]?=some z:=by
          have:=congrArg (λ l=>l[0]?) hl;simpa using this
         obtain⟨u,hu2,hzu⟩:=hr.get hz;have e1:vs.toArray[j.toNat*sz]?=some u:=by simpa using hu2
         simp only[Instr.index,asIntOf,cF,cZ,cU,run_underlying pR,h0,h1,and_self,if_true,fX,fF hi,fH,part,nv hd,hb,bZ,if_false,e1];exact bj h hzu
     . rename_i k' hv;obtain⟨i',d,mC,hd,hb,hk⟩:=qp hv;rw[hi]at mC; cases mC;rintro⟨h0,h1,rfl,h2⟩;simp only[Instr.index,asIntOf,cF,cZ,cU,run_underlying pR,h0,h1,and_self,if_true,fX,fF hi,fH,part,nv hd,hb];refine bj h ?_;simp only[aA];refine⟨(vs.drop (j.toNat*k')).take k',?_,λ u hu=>Se u (List.mem_of_mem_drop (List.mem_of_mem_take hu)),(hr.drop _).take _⟩;congr 1;apply Array.ext';simp[List.extract_eq_take_drop]
     . trivial
   . trivial
 . trivial
end
end Go.Rip
namespace Go.Rip
open Go.RowKit
section
variable {C:de} {g:Gh} {U:St} {w:World}
theorem sP {P:Program} {d:Nat}:∀ (fs:List Field) (i:Nat) (ks:List FK) (xs ys:List AV) (us vs:Array Value) (r:Bool),xR P fs i=some ks->qF ks xs ys=some r ->
 aH g xs (us.toList.drop i)->aH g ys (vs.toList.drop i)->(Op.eqFields (d+1) us vs fs).run P w=.ok r w
 | [],i,ks,xs,ys,us,vs,r,hk,he,_,_=>by
   simp only[xR,iI]at hk;subst hk;cases xs<;>cases ys<;>simp only[qF,reduceCtorEq,iI]at he
   subst he;simp[Op.eqFields]
 | f::fs,i,ks,xs,ys,us,vs,r,hk,he,hx,hy=>by
   simp only[xR]at hk;split at hk
   . rename_i k ks' hf Ss;simp only[iI]at hk;subst hk;unfold R6 at hf;split at hf
     . rename_i hc;obtain⟨ho,hn⟩:=hc;have ZN:∀ (us:Array Value) (u:Value),us[i]?=some u->∀ dd,P.underlying f.type=some dd->F0 dd=false->(part f.type us f.offset).run P w=.ok u w:=λ us u hu dd hd ha=>by
        simp only[part,cF,nv hd,cU,ha,bZ,if_false,ho,hu,cZ,fX]
       have qv:∀ {xs:List AV} {x:AV} {us:Array Value},aH g (x::xs) (us.toList.drop i)->∃ u,us[i]?=some u/\aA g x u/\aH g xs (us.toList.drop (i+1)):=λ {xs x us} h=>by
        simp only[aH]at h;obtain⟨u,rest,e,h1,h2⟩:=h;refine⟨u,?_,h1,?_⟩
        . have:=congrArg (λ l=>l[0]?) e;simpa using this
        . have:=congrArg (List.drop 1) e;rw[List.drop_drop]at this;rw[this]; simpa using h2
       have x8:∀ (u v:Value) (q r':Bool) (dd:TypeDesc),us[i]?=some u->vs[i]?=some v->P.underlying f.type=some dd->F0 dd=false->(Op.equalIn (d+1) f.type u v).run P w=.ok q w ->
        (Op.eqFields (d+1) us vs fs).run P w=.ok r' w->(Op.eqFields (d+1) us vs (f::fs)).run P w=.ok (q&&r') w:=λ u v q r' dd hu hv hd ha heq aiZ=>by
        simp only[Op.eqFields,if_pos hn,cF,ZN us u hu dd hd ha,ZN vs v hv dd hd ha,cU,heq,fX,cZ,aiZ];cases q<;>simp
       split at hf
       . rename_i hd;cases hf;cases xs with
         | nil=>simp[qF]at he
         | cons x xs =>
           cases ys with
           | nil=>cases x<;>simp[qF]at he
           | cons y ys =>
             cases x<;>cases y<;>simp only[qF,reduceCtorEq]at he
             cases hr:qF ks' xs ys with
             | none=>simp[hr]at he
             | some r' =>
               simp[hr]at he;subst he;obtain⟨u,hu,HA,nq⟩:=qv hx;obtain⟨v,hv,HB,EL⟩:=qv hy;simp only[aA]at HA HB;subst HA HB;have:=x8 _ _ _ r' _ hu hv hd rfl (run_equalIn_bool' w d f.type _ _ hd) (sP fs (i+1) ks' xs ys us vs r' Ss hr nq EL);rw[this]
       . rename_i kk hd;cases hf;cases xs with
         | nil=>simp[qF]at he
         | cons x xs =>
           cases ys with
           | nil=>cases x<;>simp[qF]at he
           | cons y ys =>
             cases x<;>cases y<;>simp only[qF,reduceCtorEq]at he
             split at he
             . rename_i e; subst e;cases hr:qF ks' xs ys with
               | none=>simp[hr]at he
               | some r' =>
                 simp[hr]at he;subst he;obtain⟨u,hu,HA,nq⟩:=qv hx;obtain⟨v,hv,HB,EL⟩:=qv hy;simp only[aA]at HA HB;subst HA HB;have:=x8 _ _ _ r' _ hu hv hd rfl (run_equalIn_int w d f.type _ _ _ _ hd) (sP fs (i+1) ks' xs ys us vs r' Ss hr nq EL);rw[this]
             . cases he
       . rename_i hd;cases hf;cases xs with
         | nil=>simp[qF]at he
         | cons x xs =>
           cases ys with
           | nil=>cases x<;>simp[qF]at he
           | cons y ys =>
             cases x<;>cases y<;>simp only[qF,reduceCtorEq]at he
             cases hr:qF ks' xs ys with
             | none=>simp[hr]at he
             | some r' =>
               simp[hr]at he;subst he;obtain⟨u,hu,HA,nq⟩:=qv hx;obtain⟨v,hv,HB,EL⟩:=qv hy;simp only[aA]at HA HB;subst HA HB;have:=x8 _ _ _ r' _ hu hv hd rfl (run_equalIn_string w d f.type _ _ hd) (sP fs (i+1) ks' xs ys us vs r' Ss hr nq EL);rw[this];simp[ByteArray.toList_eq]
       . cases hf
     . cases hf
   . cases hk
theorem Fv {P:Program} {t:TypeId} {a b:List AV} {us vs:List Value} {r:Bool} (h:NJ P t a b=some r) (ha:aH g a us) (hb:aH g b vs) :
 (Op.equalIn 10000 t (.agg us.toArray) (.agg vs.toArray)).run P w=.ok r w/\P.eqGuardType P.depth t=false:=by
 unfold NJ at h;split at h
 . rename_i ks iW;unfold PI at iW;split at iW
   . rename_i fs hu;split at iW
     . rename_i hc;have eJ:P.fieldsOf t=fs:=by simp[Program.fieldsOf,hu]
       refine⟨?_,hc.2⟩;rw[run_equalIn_struct w 9999 t _ _ (by rw[eJ]; exact hu) hc.1,eJ];exact sP (d:=9998) fs.toList 0 ks a b _ _ r iW h (by simpa using ha) (by simpa using hb)
     . cases iW
   . cases iW
 . cases h
theorem uR {P:Program} (w:World) (d:Nat) (t:TypeId) (ms:Array (String×TypeId)) (h:P.underlying t=some (.interface ms)) (a:TypeId) (b:Value):(Op.equalIn (d+1) t (.iface a b) .nilIface).run P w=.ok false w:=by
 simp[Op.equalIn,run_underlying h]
theorem lB {P:Program} (w:World) (d:Nat) (t e:TypeId) (h:P.underlying t=some (.pointer e)) (a:Option Addr):(Op.equalIn (d+1) t (.pointer a) (.pointer none)).run P w=.ok a.isNone w:=by
 cases a<;>simp[Op.equalIn,run_underlying h]
theorem qh {P:Program} (w:World) (d:Nat) (t e:TypeId) (h:P.underlying t=some (.slice e)) (a:Option Addr) (n c:Nat):(Op.equalIn (d+1) t (.slice a n c) (.slice none 0 0)).run P w=.ok a.isNone w:=by
 cases a<;>simp[Op.equalIn,run_underlying h]
theorem sQ {P:Program} (w:World) (d:Nat) (t:TypeId) (ms:Array (String×TypeId)) (h:P.underlying t=some (.interface ms)):(Op.equalIn (d+1) t .nilIface .nilIface).run P w=.ok true w:=by
 simp[Op.equalIn,run_underlying h]
theorem RB (h:bw g U w) {op:BinOp} {t:TypeId} {x y:AV} {u v:Value} (X Y:Operand) (hx:aA g x u) (hy:aA g y v) :
 aC.Fits C g U (Pn C.P op t x y) ((do let r <- (do eqGuard op t X Y u v; binOp op t u v:Sem Value); pure (Next.value r):Sem Next).run C.P w):=by
 have hI:∀ (k:IntKind) (n:Int),aC.Fits C g U (jS k n) (.ok (.value (.int k (k.wrap n))) w):=λ k n=>by
  unfold jS;split
  . intro hi;rw[zR hi];exact bj h (by simp only[aA])
  . exact bj h (by simp only[aA])
 unfold Pn;split
 all_goals first
  | trivial
  | skip
 all_goals simp only[aA]at hx hy
 all_goals first
  | (subst hx hy
     split
     . rename_i e; subst e
       first
        | (simp only[eqGuard,binOp,ne_eq,not_true_eq_false,if_false,Op.intArith,Op.intCmp,Op.intBits,cF,cZ,cU,Bool.not_eq_true',Bool.true_eq_false,dm,fx,bZ,if_true,fX]
           first
            | exact hI _ _
            | exact bj h (by simp only[aA]))
        | (intro hb
           simp only[eqGuard,binOp,ne_eq,not_true_eq_false,if_false,Op.intDiv,if_neg hb,cF,cZ,cU,Bool.not_eq_true',Bool.true_eq_false,dm,fx,bZ,if_true,fX]
           first
            | exact hI _ _
            | exact bj h (by simp only[aA]))
     . trivial)
  | skip
 . subst hx hy;simp only[eqGuard,binOp,Op.stringOp,cF,cZ,cU,dm,bZ,if_false,fX,ByteArray.toList_eq,List.toList_toArray];exact bj h (by simp only[aA])
 . subst hx hy;simp only[eqGuard,binOp,Op.stringOp,cF,cZ,cU,dm,bZ,if_false,fX,ByteArray.toList_eq,List.toList_toArray];exact bj h (by simp only[aA]; rfl)
 . subst hx hy;rename_i a b;intro hle;have h1:¬ (((ByteArray.mk a.toArray).size+(ByteArray.mk b.toArray).size:Nat):Int) > IntKind.i64.max:=by
    have e1:(ByteArray.mk a.toArray).size=a.length:=by simp[ByteArray.size]
    have e2:(ByteArray.mk b.toArray).size=b.length:=by simp[ByteArray.size]
    have e3:IntKind.i64.max=9223372036854775807:=by simp[IntKind.max,IntKind.signed,IntKind.bits]
    rw[e1,e2,e3]; omega
   have h2:(ByteArray.mk a.toArray)++(ByteArray.mk b.toArray)=ByteArray.mk (a++b).toArray:=by
    apply ByteArray.ext;simp
   simp only[eqGuard,binOp,Op.stringOp,cF,cZ,cU,if_neg h1,fX,dm,fx,bZ,if_true,if_false,h2];exact bj h (by simp only[aA])
 . subst hx hy;split
   . rename_i ht;have hu:C.P.underlying t=some .bool:=by unfold yi at ht; split at ht<;>simp_all
     have hr:=run_equalIn_bool' (P:=C.P) w 9999 t;simp only[eqGuard,binOp,Op.equal,Op.maxDepth,cF,cZ,cU,hr _ _ hu,dm,bZ,if_false,fX];exact bj h (by simp only[aA])
   . trivial
 . subst hx hy;split
   . rename_i ht;have hu:C.P.underlying t=some .bool:=by unfold yi at ht; split at ht<;>simp_all
     have hr:=run_equalIn_bool' (P:=C.P) w 9999 t;simp only[eqGuard,binOp,Op.equal,Op.maxDepth,cF,cZ,cU,hr _ _ hu,dm,bZ,if_false,fX];exact bj h (by simp only[aA]; rfl)
   . trivial
 . rename_i a b;obtain⟨us,rfl,_,ha⟩:=hx;obtain⟨vs,rfl,_,hb⟩:=hy;cases he:NJ C.P t a b with
   | none=>trivial
   | some r =>
     obtain⟨h1,h2⟩:=Fv (w:=w) he ha hb;simp only[xH,cF,run_eqGuard_agg w _ _ _ _ _ _ h2,cU,run_eql_struct,h1,cZ];exact bj h (by simp only[aA])
 . rename_i a b;obtain⟨us,rfl,_,ha⟩:=hx;obtain⟨vs,rfl,_,hb⟩:=hy;cases he:NJ C.P t a b with
   | none=>trivial
   | some r =>
     obtain⟨h1,h2⟩:=Fv (w:=w) he ha hb;simp only[xH,cF,run_eqGuard_agg w _ _ _ _ _ _ h2,cU,run_neq_struct,h1,cZ];exact bj h (by simp only[aA])
 . obtain⟨u',rfl,_⟩:=hx;subst hy;split
   . rename_i ht;obtain⟨ms,hu⟩:∃ ms,C.P.underlying t=some (.interface ms):=by unfold mE at ht; split at ht<;>simp_all
     have hr:=uR (P:=C.P) w 9999 t ms hu;simp only[eqGuard,binOp,Op.equal,Op.maxDepth,hr,cF,cZ,cU,dm,bZ,if_false,fX];exact bj h (by simp only[aA])
   . trivial
 . obtain⟨u',rfl,_⟩:=hx;subst hy;split
   . rename_i ht;obtain⟨ms,hu⟩:∃ ms,C.P.underlying t=some (.interface ms):=by unfold mE at ht; split at ht<;>simp_all
     have hr:=uR (P:=C.P) w 9999 t ms hu;simp only[eqGuard,binOp,Op.equal,Op.maxDepth,hr,cF,cZ,cU,dm,fx,bZ,if_false,fX];exact bj h (by simp only[aA])
   . trivial
 . subst hx hy;split
   . rename_i ht;obtain⟨ms,hu⟩:∃ ms,C.P.underlying t=some (.pointer ms):=by unfold oq at ht; split at ht<;>simp_all
     have hr:=lB (P:=C.P) w 9999 t ms hu;simp only[eqGuard,binOp,Op.equal,Op.maxDepth,hr,cF,cZ,cU,Option.isNone_none,dm,fx,bZ,if_false,fX];exact bj h (by simp[aA])
   . trivial
 . obtain⟨x,_,rfl⟩:=hx;subst hy;split
   . rename_i ht;obtain⟨ms,hu⟩:∃ ms,C.P.underlying t=some (.pointer ms):=by unfold oq at ht; split at ht<;>simp_all
     have hr:=lB (P:=C.P) w 9999 t ms hu;simp only[eqGuard,binOp,Op.equal,Op.maxDepth,hr,cF,cZ,cU,Option.isNone_none,dm,fx,bZ,if_false,fX];exact bj h (by simp[aA])
   . trivial
 . subst hx hy;split
   . rename_i ht;obtain⟨ms,hu⟩:∃ ms,C.P.underlying t=some (.pointer ms):=by unfold oq at ht; split at ht<;>simp_all
     have hr:=lB (P:=C.P) w 9999 t ms hu;simp only[eqGuard,binOp,Op.equal,Op.maxDepth,hr,cF,cZ,cU,Option.isNone_none,dm,fx,bZ,if_false,fX];exact bj h (by simp[aA])
   . trivial
 . obtain⟨x,_,rfl⟩:=hx;subst hy;split
   . rename_i ht;obtain⟨ms,hu⟩:∃ ms,C.P.underlying t=some (.pointer ms):=by unfold oq at ht; split at ht<;>simp_all
     have hr:=lB (P:=C.P) w 9999 t ms hu;simp only[eqGuard,binOp,Op.equal,Op.maxDepth,hr,cF,cZ,cU,Option.isNone_none,dm,fx,bZ,if_false,fX];exact bj h (by simp[aA])
   . trivial
 . obtain⟨_,_,_,rfl,_⟩:=hx;subst hy;split
   . rename_i ht;obtain⟨ms,hu⟩:∃ ms,C.P.underlying t=some (.pointer ms):=by unfold oq at ht; split at ht<;>simp_all
     have hr:=lB (P:=C.P) w 9999 t ms hu;simp only[eqGuard,binOp,Op.equal,Op.maxDepth,hr,cF,cZ,cU,Option.isNone_none,dm,fx,bZ,if_false,fX];exact bj h (by simp[aA])
   . trivial
 . obtain⟨_,_,_,rfl,_⟩:=hx;subst hy;split
   . rename_i ht;obtain⟨ms,hu⟩:∃ ms,C.P.underlying t=some (.pointer ms):=by unfold oq at ht; split at ht<;>simp_all
     have hr:=lB (P:=C.P) w 9999 t ms hu;simp only[eqGuard,binOp,Op.equal,Op.maxDepth,hr,cF,cZ,cU,Option.isNone_none,dm,fx,bZ,if_false,fX];exact bj h (by simp[aA])
   . trivial
 . subst hx;subst hy;split
   . rename_i ht;obtain⟨ms,hu⟩:∃ ms,C.P.underlying t=some (.slice ms):=by unfold rG at ht; split at ht<;>simp_all
     have hr:=qh (P:=C.P) w 9999 t ms hu;simp only[eqGuard,binOp,Op.equal,Op.maxDepth,hr,cF,cZ,cU,Option.isNone_none,Option.isNone_some,dm,fx,bZ,if_false,fX];exact bj h (by simp[aA])
   . trivial
 . obtain⟨_,_,_,_,rfl,_⟩:=hx;subst hy;split
   . rename_i ht;obtain⟨ms,hu⟩:∃ ms,C.P.underlying t=some (.slice ms):=by unfold rG at ht; split at ht<;>simp_all
     have hr:=qh (P:=C.P) w 9999 t ms hu;simp only[eqGuard,binOp,Op.equal,Op.maxDepth,hr,cF,cZ,cU,Option.isNone_none,Option.isNone_some,dm,fx,bZ,if_false,fX];exact bj h (by simp[aA])
   . trivial
 . obtain⟨_,_,_,rfl,_⟩:=hx;subst hy;split
   . rename_i ht;obtain⟨ms,hu⟩:∃ ms,C.P.underlying t=some (.slice ms):=by unfold rG at ht; split at ht<;>simp_all
     have hr:=qh (P:=C.P) w 9999 t ms hu;simp only[eqGuard,binOp,Op.equal,Op.maxDepth,hr,cF,cZ,cU,Option.isNone_none,Option.isNone_some,dm,fx,bZ,if_false,fX];exact bj h (by simp[aA])
   . trivial
theorem RC (h:bw g U w) {op:BinOp} {t:TypeId} {x y:AV} {u v:Value} (X Y:Operand) (hx:aA g x u) (hy:aA g y v) :
 aC.Fits C g U (JN C.P op t (isLit X||isLit Y) x y) ((do let r <- (do eqGuard op t X Y u v; binOp op t u v:Sem Value); pure (Next.value r):Sem Next).run C.P w):=by
 have key:∀ (op:BinOp),(op=.eql\/op=.neq)->mE C.P t=true->(isLit X||isLit Y)=true->(eqGuard op t X Y .nilIface .nilIface).run C.P w=.ok () w:=λ op hop ht hl=>by
  obtain⟨ms,hu⟩:∃ ms,C.P.underlying t=some (.interface ms):=by unfold mE at ht; split at ht<;>simp_all
  rcases hop with rfl|rfl<;>cases X<;>cases Y<;>simp[isLit]at hl<;>simp[eqGuard]
 unfold JN;split
 . simp only[aA]at hx hy;subst hx hy;split
   . rename_i ht;obtain⟨ms,hu⟩:∃ ms,C.P.underlying t=some (.interface ms):=by have ht:=ht.1; unfold mE at ht; split at ht<;>simp_all
     have hr:=sQ (P:=C.P) w 9999 t ms hu;simp only[cF,key _ (.inl rfl) ht.1 ht.2,binOp,Op.equal,Op.maxDepth,hr,cZ,cU,dm,fx,bZ,if_false,fX];exact bj h (by simp[aA])
   . trivial
 . simp only[aA]at hx hy;subst hx hy;split
   . rename_i ht;obtain⟨ms,hu⟩:∃ ms,C.P.underlying t=some (.interface ms):=by have ht:=ht.1; unfold mE at ht; split at ht<;>simp_all
     have hr:=sQ (P:=C.P) w 9999 t ms hu;simp only[cF,key _ (.inr rfl) ht.1 ht.2,binOp,Op.equal,Op.maxDepth,hr,cZ,cU,dm,fx,bZ,if_false,fX];exact bj h (by simp[aA])
   . trivial
 . exact RB h X Y hx hy
end
end Go.Rip
namespace Go.Rip
open Go.RowKit
section
variable {C:de} {g:Gh} {U:St} {w:World}
def Ph (P:Program) (t u:TypeId):Option (TypeId×Nat) :=
 match P.underlying u with
 | some (.slice _)=>gh P t
 | some .string=>match gh P t with
   | some (e,1)=>some (e,1)
   | _=>none
 | _=>none
def pa (U:St):AV->Option (Nat×List AV)
 | .vec m _ l=>some (m,l)
 | .ag=>some (0,[])
 | .ms b off m j9 _=>match U.box b with
   | some l=>some (m,(l.drop off).take (m*j9))
   | none=>none
 | .str s=>some (s.length,s.map λ b=>.int .u8 b.toNat)
 | _=>none
def F1 (P:Program) (t u:TypeId) (mu:Bool) (s y:AV) (U:St):aC :=
 match Ph P t u,pa U y with
 | some (e,sz),some (m,l2) =>
   .cond (l2.length=m*sz) (match s with
   | .ag=>if m=0 then .val .ag else .cond (m<=4294967296) (if mu then .qx m sz e none l2 else .pv m l2 none ⟨m,e,sz⟩)
   | .vec n .full l=>if m=0 then .val s else .cond (l.length=n*sz/\n+m<=4294967296) (.pv (n+m) (l++l2) none ⟨n+m,e,sz⟩)
   | .vec n (.own τ) l=>.cond (U.tok τ=some ⟨n,e,sz⟩/\l.length=n*sz/\n+m<=4294967296) (.pv (n+m) (l++l2) (some τ) ⟨n+m,e,sz⟩)
   | .ms b off n j9 e'=>match U.box b with
     | some l=>.cond (off=0/\j9=sz/\e'=e/\n*sz<=l.length/\n+m<=4294967296) (.qx (n+m) sz e (some b) (l.take (n*sz)++l2))
     | none=>.bad
   | _=>.bad)
 | _,_=>.bad
theorem Rp {P:Program} {t u e:TypeId} {sz:Nat} (h:Ph P t u=some (e,sz)):gh P t=some (e,sz)/\∃ d,P.underlying u=some d/\((∃ x,d=.slice x)\/d=.string):=by
 unfold Ph at h;split at h
 . rename_i x hx; exact⟨h,_,hx,.inl ⟨x,rfl⟩⟩
 . rename_i hx;split at h
   . rename_i e' he;simp only[iI,hY]at h;obtain⟨rfl,rfl⟩:=h;exact⟨he,_,hx,.inr rfl⟩
   . cases h
 . cases h
theorem Wb (h:bw g U w) {y:AV} {v:Value} (hy:aA g y v) {m:Nat} {l2:List AV} (hs:pa U y=some (m,l2)) {sz:Nat} (hl:l2.length=m*sz) :
 (∀ W,(Builtin.lenOf v).run C.P W=.ok m W)/\∃ us:List Value,aH g l2 us/\(∀ u∈us,u.oneCell'=true)/\∀ W:World,W.heap=w.heap->(Builtin.firstCells sz m v).run C.P W=.ok us.toArray W:=by
 have mA:∀ aL off j,(⟨aL,off,none⟩:Addr).add j=⟨aL,off+j,none⟩:=λ aL off j=>by unfold Addr.add; split<;>simp_all
 have tW:∀ (W:World) a,W.heap=w.heap->W.cell? a=w.cell? a:=λ W a hW=>by simp[World.cell?,hW]
 have read:∀ (aL off c:Nat) (us:List Value),us.length=m*sz->(∀ j u,us[j]?=some u->w.cell? ⟨aL,off+j,none⟩=some u)->∀ W:World,W.heap=w.heap ->
  (Builtin.firstCells sz m (.slice (some ⟨aL,off,none⟩) m c)).run C.P W=.ok us.toArray W:=λ aL off c us hlen hc W hW=>by
  exact run_firstCells_some W sz m ⟨aL,off,none⟩ m c us hlen (λ j u hu=>by rw[mA,tW W _ hW]; exact hc j u hu)
 cases y<;>simp only[pa,reduceCtorEq,iI,hY]at hs
 . rename_i s;obtain⟨rfl,rfl⟩:=hs;simp only[aA]at hy;subst hy;have fH:(ByteArray.mk s.toArray).size=s.length:=by simp[ByteArray.size]
   refine⟨λ W=>by simp[Builtin.lenOf,fH],s.map (λ b=>Value.int .u8 b.toNat),?_,by simp[Value.oneCell'],λ W _=>?_⟩
   . refine aH.Fa (by simp) λ i x u hx hu=>?_;simp only[oA,qN]at hx hu;obtain⟨b,hb,rfl⟩:=hx;obtain⟨b',eY,rfl⟩:=hu;rw[hb]at eY; cases eY;simp only[aA]
   . simp only[Builtin.firstCells,cZ];congr 1;apply Array.ext';simp
 . obtain⟨rfl,rfl⟩:=hs;simp only[aA]at hy;subst hy;exact⟨λ W=>by simp[Builtin.lenOf],[],by simp[aH],by simp,λ W _=>by simp[Builtin.firstCells]⟩
 . rename_i n cap l;obtain⟨rfl,rfl⟩:=hs;simp only[aA]at hy;obtain⟨aL,off,c,vs,rfl,_,_,_,hi,hr⟩:=hy;exact⟨λ W=>by simp[Builtin.lenOf],vs,hr,λ u hu=>by
    obtain⟨j,hj⟩:=List.getElem?_of_mem hu;exact (h.cJ _ _ _ (hi j u hj)).2,read aL off c vs (by rw[hr.length,hl]) λ j u hu=>(h.cJ _ _ _ (hi j u hu)).1⟩
 . rename_i b off n j9 e';split at hs
   . rename_i l hb;simp only[iI,hY]at hs;obtain⟨rfl,rfl⟩:=hs;simp only[aA]at hy;obtain⟨x,c,hx,rfl,_,_,_,_⟩:=hy;obtain⟨a,vs,hv,ha,hr,hc⟩:=tU h (p:=.box b off) (v:=.pointer (some ⟨x.aL,off,none⟩)) (l:=l.drop off) (by simp only[aA]; exact⟨x,hx,rfl⟩) (by simp[od,hb]);cases hv;refine⟨λ W=>by simp[Builtin.lenOf],vs.take (n*j9),hr.take _,λ u hu=>?_,read x.aL off c _ (by rw[(hr.take _).length,hl]) λ j u hu=>?_⟩
     . obtain⟨j,hj⟩:=List.getElem?_of_mem hu;rw[List.getElem?_take]at hj;split at hj
       . exact (hc j u hj).2
       . cases hj
     . rw[List.getElem?_take]at hu;split at hu
       . have:=(hc j u hu).1; rwa [mA]at this
       . cases hu
   . cases hs
theorem qB {P:Program} {w:World} {t u ty e:TypeId} {i:TypeInfo} {d:TypeDesc} (ht:P.underlying t=some (.slice e)) (hu:P.underlying u=some d) (hd:(∃ x,d=.slice x)\/d=.string) (hi:P.info? e=some i)
 {base:Option Addr} {n c m:Nat} {v:Value} {us:List Value} (hm:∀ W,(Builtin.lenOf v).run P W=.ok m W) (hf:(Builtin.firstCells i.size m v).run P w=.ok us.toArray w) (rm:n+m<=c) :
 (Builtin.append_ #[t,u] ty #[.slice base n c,v]).run P w=match base with
   | some a=>((storeCells (a.add (n*i.size)) us).run P w).andThen λ _ w'=>.ok (.slice base (n+m) c) w'
   | none=>.ok (.slice base (n+m) c) w:=by
 rcases hd with ⟨x,rfl⟩|rfl<;>cases base <;>
  simp[Builtin.append_,run_underlying ht,run_underlying hu,sizeOf,typeInfo,hi,hm,rm,hf]
theorem GJ {P:Program} {w:World} {t u ty e:TypeId} {i:TypeInfo} {z:Value} {d:TypeDesc} (ht:P.underlying t=some (.slice e)) (hu:P.underlying u=some d) (hd:(∃ x,d=.slice x)\/d=.string) (hi:P.info? e=some i) (hz:i.zero=some z) (AR:i.bytes<=32768)
 {base:Option Addr} {n c m:Nat} {v:Value} {Bo us:List Value} (hm:∀ W,(Builtin.lenOf v).run P W=.ok m W) (hf:∀ W:World,W.heap=w.heap->(Builtin.firstCells i.size m v).run P W=.ok us.toArray W)
 (ho:∀ W:World,W.heap=w.heap->(Builtin.firstCells i.size n (.slice base n c)).run P W=.ok Bo.toArray W) (akp:c<n+m) (qX:n+m<=4294967296) :
 (Builtin.append_ #[t,u] ty #[.slice base n c,v]).run P w =
   .ok (.slice (some ⟨w.heap.size,0,none⟩) (n+m) (grownCap w (n+m) c e))
    (w.drew.alloc (.cells (Bo.toArray++us.toArray++Builtin.zeroCells z.cells (grownCap w (n+m) c e-(n+m))) e)):=by
 have rm:¬ (n+m<=c):=by omega
 have Xg:¬ (9223372036854775807<((n:Int)+(m:Int))):=by omega
 have gz:(n+m)*i.bytes<=140737488355328:=Nat.le_trans (Nat.mul_le_mul qX AR) (by omega);have Sf:=growslice_fits (old:=c) (need:=n+m) (bytes:=i.bytes) (by omega) gz;have Xf:¬ (281474976710656<Builtin.nextslicecap (n+m) c*i.bytes):=by omega
 have ly:=hf w.drew rfl;have ZI:=ho w.drew rfl;rcases hd with ⟨x,rfl⟩|rfl <;>
 . simp[Builtin.append_,run_underlying ht,run_underlying hu,sizeOf,typeInfo,zeroValue,hi,hz,hm,rm,Xg,Xf,Question.forced,ly,ZI,newRow,grownCap];congr 2;apply Array.ext';simp[dc]
theorem St.NH (U:St) (d:Option Nat):St.Le (U.so d) U:=by
 cases d with
 | none=>exact St.Le.refl U
 | some b=>exact St.vw U b
theorem qT {w:World} (h:bw g U w) {del:Option Nat} {e:TypeId} {sz n c:Nat} {l:List AV} {vs rest:List Value} (hr:aH g l vs) (h1:∀ u∈vs,u.oneCell'=true) (h2:∀ u∈rest,u.oneCell'=true)
 (hl:l.length=n*sz) (hc:vs.length+rest.length=c*sz) (hn:n<=c) (x6:c<=maxLen) :
 aC.Fits C g U (.pv n l del ⟨n,e,sz⟩) (.ok (.value (.slice (some ⟨w.heap.size,0,none⟩) n c)) (w.alloc (.cells (vs++rest).toArray e))):=by
 obtain⟨τ,g',h3,hle,h4,h5,h6⟩:=(h.weaken (St.NH U del)).pv e sz n c (vs++rest).toArray vs rest (by simp) (by
  intro u hu;simp only[fT]at hu;rcases hu with hu|hu
  . exact h1 u hu
  . exact h2 u hu) (by rw[hr.length,hl]) (by simp[hc]) hn x6
 refine⟨_,_,g',τ,rfl,h3,hle,h6,?_⟩;simp only[NV.at,aA];exact⟨w.heap.size,0,c,vs,rfl,hn,x6,⟨rfl,h4⟩,h5,hr.mono hle⟩
theorem sv {w:World} (h:bw g U w) {del:Option Nat} {e:TypeId} {sz n c:Nat} {l:List AV} {vs rest:List Value} (hr:aH g l vs) (h1:∀ u∈vs,u.oneCell'=true) (h2:∀ u∈rest,u.oneCell'=true)
 (hc:vs.length+rest.length=c*sz) (hn:n<=c) (x6:c<=maxLen) :
 aC.Fits C g U (.qx n sz e del l) (.ok (.value (.slice (some ⟨w.heap.size,0,none⟩) n c)) (w.alloc (.cells (vs++rest).toArray e))):=by
 obtain⟨b,g',h3,hle,h4,h6⟩:=(h.weaken (St.NH U del)).cL e (vs++rest).toArray vs rest l (by simp) hr (by
  intro u hu;simp only[fT]at hu;rcases hu with hu|hu
  . exact h1 u hu
  . exact h2 u hu)
 refine⟨_,_,g',b,rfl,h3,hle,h6,?_⟩;simp only[NV.at,aA];exact⟨_,c,h4,rfl,hn,x6,by simp[hc],rfl⟩
theorem nY {z:Array Value} (hz:∀ u∈z.toList,u.oneCell'=true) (n:Nat) (hp:0<z.size):∀ u∈(Builtin.zeroCells z n).toList,u.oneCell'=true:=by
 intro u hu;simp only[Builtin.zeroCells,Array.toList_map,List.mem_map]at hu;obtain⟨i,_,rfl⟩:=hu;have aN:i%z.size<z.size:=Nat.mod_lt _ hp;rw[getElem!_pos z _ aN];exact hz _ (by simp)
theorem JH (h:bw g U w) {t u ty:TypeId} {mu:Bool} {s y:AV} {v v2:Value} (hs:aA g s v) (hy:aA g y v2) :
 aC.Fits C g U (F1 C.P t u mu s y U) ((do let r <- Builtin.append_ #[t,u] ty #[v,v2]; pure (Next.value r):Sem Next).run C.P w):=by
 have mA:∀ aL off j,(⟨aL,off,none⟩:Addr).add j=⟨aL,off+j,none⟩:=λ aL off j=>by unfold Addr.add; split<;>simp_all
 unfold F1;split
 . rename_i e sz m l2 xX xn;intro pP;obtain⟨sC,d,hu,hd⟩:=Rp xX;obtain⟨i,z,ht,hi,hz,yc,rfl,mD,AR,hz1⟩:=jO sC;obtain⟨hm,us,uk,xW,hf⟩:=Wb (C:=C) h hy xn pP;have SJ:us.length=m*i.size:=by rw[uk.length,pP]
   have grow:∀ (base:Option Addr) (n c:Nat) (Bo:List Value),(∀ W:World,W.heap=w.heap->(Builtin.firstCells i.size n (.slice base n c)).run C.P W=.ok Bo.toArray W)->Bo.length=n*i.size->c<n+m->n+m<=4294967296 ->
    ∃ cap rest,n+m<=cap/\cap<=maxLen/\(∀ u∈rest,u.oneCell'=true)/\(Bo++us).length+rest.length=cap*i.size /\
    (Builtin.append_ #[t,u] ty #[.slice base n c,v2]).run C.P w=.ok (.slice (some ⟨w.drew.heap.size,0,none⟩) (n+m) cap) (w.drew.alloc (.cells ((Bo++us)++rest).toArray e)):=λ base n c Bo ho SH aN qX=>by
    have kV:=grownCap_ge w (n+m) c e;have hle:=grownCap_le_maxLen w (n+m) c e (by unfold maxLen; omega);refine⟨grownCap w (n+m) c e,(Builtin.zeroCells z.cells (grownCap w (n+m) c e-(n+m))).toList,kV,hle,nY hz1 _ (by omega),?_,?_⟩
    . rw[cO,SH,SJ,uH,size_zeroCells,yc,<- Nat.add_mul,<- Nat.add_mul];congr 1; omega
    . rw[GJ ht hu hd hi hz AR hm hf ho aN qX];congr 3;simp
   split
   . simp only[aA]at hs;subst hs;split
     . rename_i h0;subst h0;rw[cF,qB ht hu hd hi hm (hf w rfl) (by omega)];exact bj h (by simp only[aA])
     . rename_i h0;intro qX;obtain⟨cap,rest,h1,h2,h3,h4,h5⟩:=grow none 0 0 [] (λ W _=>by simp[Builtin.firstCells]) (by simp) (by omega) (by omega);rw[cF,h5];have fp:=h.grow (mz w);simp only[db,eH]at h1 h4 h5 ⊢;split
       . exact sv fp uk xW h3 h4 h1 h2
       . exact qT fp uk xW h3 pP h4 h1 h2
   . rename_i n l;have wE:=hs;simp only[aA]at hs;obtain⟨aL,off,c,vs,rfl,Hw,x6,AS,pF,hr⟩:=hs;simp only[wc]at AS;subst AS;split
     . rename_i h0;subst h0;rw[cF,qB ht hu hd hi hm (hf w rfl) (by omega)];have ai5:us=[]:=List.eq_nil_of_length_eq_zero (by simpa using SJ);subst ai5;simp only[storeCells,cZ,cU,Nat.add_zero];exact bj h wE
     . rename_i h0;rintro⟨hl,qX⟩;have jr:vs.length=c*i.size:=by rw[hr.length,hl]
       have ho:∀ W:World,W.heap=w.heap->(Builtin.firstCells i.size c (.slice (some ⟨aL,off,none⟩) c c)).run C.P W=.ok vs.toArray W:=λ W hW =>
        run_firstCells_some W i.size c ⟨aL,off,none⟩ c c vs jr (λ j u hu=>by
         rw[mA];have:W.cell? ⟨aL,off+j,none⟩=w.cell? ⟨aL,off+j,none⟩:=by simp[World.cell?,hW]
         rw[this]; exact (h.cJ _ _ _ (pF j u hu)).1)
       obtain⟨cap,rest,h1,h2,h3,h4,h5⟩:=grow (some ⟨aL,off,none⟩) c c vs ho jr (by omega) qX;rw[cF,h5];have fp:=h.grow (mz w);refine qT fp (hr.append uk) ?_ h3 (by rw[cO,hl,pP,Nat.add_mul]) h4 h1 h2;intro u hu;simp only[fT]at hu;rcases hu with hu|hu
       . obtain⟨j,hj⟩:=List.getElem?_of_mem hu;exact (h.cJ _ _ _ (pF j u hj)).2
       . exact xW u hu
   . rename_i n τ l;rintro⟨aeP,hl,qX⟩;simp only[aA]at hs;obtain⟨aL,off,c,vs,rfl,Hw,x6,AS,pF,hr⟩:=hs;simp only[wc]at AS;obtain⟨rfl,uN⟩:=AS;obtain⟨ain,c',cur,k1,k2,k3,k4,k5,k6,k7⟩:=h.tok τ _ aeP;rw[uN]at k1; cases k1;have jr:vs.length=n*i.size:=by rw[hr.length,hl]
     by_cases rm:n+m<=c
     . have qJ:n*i.size+us.length<=cur.size:=by
        have e4:cur.size=c*i.size:=k4;rw[SJ,e4,<- Nat.add_mul]; exact Nat.mul_le_mul_right _ rm
       have gr:=run_storeCells_at C.P aL (n*i.size) e us 0 cur w k3 (by simpa using qJ) xW;simp only[Nat.add_zero]at gr;rw[cF,qB ht hu hd hi hm (hf w rfl) rm];simp only[mA,db,gr,cU];obtain⟨xd,g',t1,hle,t2,t3,t4⟩:=h.afz aeP uN cur (cur.toList.take (n*i.size)++us++cur.toList.drop (n*i.size+us.length)).toArray us m k3 SJ rm (by simp) xW;refine⟨_,_,g',xd,rfl,t1,hle,t4,?_⟩;simp only[NV.at,aA];refine⟨aL,0,c,vs++us,rfl,rm,x6,⟨rfl,t2⟩,λ j u hu=>?_,(hr.append uk).mono hle⟩
       by_cases hj:j<vs.length
       . rw[uG hj]at hu;exact (pF.mono hle) j u hu
       . rw[List.getElem?_append_right (by omega)]at hu;have e0:n*i.size+(j-vs.length)=0+j:=by omega
         have t3':g'.cJ aL (n*i.size+(j-vs.length))=some u:=t3 _ u hu;rw[e0]at t3';exact t3'
     . have ho:∀ W:World,W.heap=w.heap->(Builtin.firstCells i.size n (.slice (some ⟨aL,0,none⟩) n c)).run C.P W=.ok vs.toArray W:=λ W hW =>
        run_firstCells_some W i.size n ⟨aL,0,none⟩ n c vs jr (λ j u hu=>by
         rw[mA];have:W.cell? ⟨aL,0+j,none⟩=w.cell? ⟨aL,0+j,none⟩:=by simp[World.cell?,hW]
         rw[this]; exact (h.cJ _ _ _ (pF j u hu)).1)
       obtain⟨cap,rest,h1,h2,h3,h4,h5⟩:=grow (some ⟨aL,0,none⟩) n c vs ho jr (by omega) qX;rw[cF,h5];have fp:=h.grow (mz w);refine qT fp (hr.append uk) ?_ h3 (by rw[cO,hl,pP,Nat.add_mul]) h4 h1 h2;intro u hu;simp only[fT]at hu;rcases hu with hu|hu
       . obtain⟨j,hj⟩:=List.getElem?_of_mem hu;exact (h.cJ _ _ _ (pF j u hj)).2
       . exact xW u hu
   . rename_i b off n j9 e';split
     . rename_i l hb;rintro⟨rfl,rfl,rfl,hnl,qX⟩;simp only[aA]at hs;obtain⟨x,c,hx,rfl,Hw,x6,ahj,Oe⟩:=hs;obtain⟨x',cur,vs,ahw,k1,k2,k3,k4,k5,k6,k7,k8⟩:=h.box b l hb;rw[hx]at k1; cases k1;have x7:cur.size=c*i.size:=by rw[k4]; omega
       have jr:=k6.length
       by_cases rm:n+m<=c
       . have qJ:n*i.size+us.length<=cur.size:=by
          rw[SJ,x7,<- Nat.add_mul]; exact Nat.mul_le_mul_right _ rm
         have gr:=run_storeCells_at C.P x.aL (n*i.size) x.e us 0 cur w k3 (by simpa using qJ) xW;simp only[Nat.add_zero]at gr;rw[cF,qB ht hu hd hi hm (hf w rfl) rm];simp only[mA,db,gr,cU];have e1:cur.toList.take (n*i.size)=vs.take (n*i.size):=by rw[k5,List.take_append_of_le_length (by omega)]
         have A6:=h.setRow hb hx (l':=l.take (n*i.size)++l2) (cur.toList.take (n*i.size)++us++cur.toList.drop (n*i.size+us.length)).toArray (vs.take (n*i.size)++us) (cur.toList.drop (n*i.size+us.length)) (by
          simp only[List.size_toArray,cO,List.length_take,List.length_drop,uH]; omega) (by simp[e1]) ((k6.take _).append uk) (by
          intro u hu;simp only[fT]at hu;rcases hu with (hu|hu)|hu
          . exact k7 u (List.mem_of_mem_take hu)
          . exact xW u hu
          . exact k7 u (List.mem_of_mem_drop hu))
         obtain⟨b',g',f1,hle,f2,f3⟩:=A6.rename (b:=b) (x:=.box (l.take (n*i.size)++l2)) (by simp[St.cx,St.set]) hx;have ed:(U.cx b (l.take (n*i.size)++l2)).del b=U.del b:=by
          simp only[St.cx,St.set,St.del,St.mk.injEq,and_true];funext y;split<;>rfl
         rw[ed]at f1 f3;refine⟨_,_,g',b',rfl,f1,hle,f3,?_⟩;simp only[NV.at,aA];exact⟨x,c,f2,rfl,rm,x6,ahj,Oe⟩
       . have hvn:(vs.take (n*i.size)).length=n*i.size:=by simp; omega
         have ho:∀ W:World,W.heap=w.heap->(Builtin.firstCells i.size n (.slice (some ⟨x.aL,0,none⟩) n c)).run C.P W=.ok (vs.take (n*i.size)).toArray W:=λ W hW =>
          run_firstCells_some W i.size n ⟨x.aL,0,none⟩ n c _ hvn (λ j u hu=>by
           rw[mA];have:W.cell? ⟨x.aL,0+j,none⟩=w.cell? ⟨x.aL,0+j,none⟩:=by simp[World.cell?,hW]
           rw[this,cell_of_row _ _ _ cur x.e (0,0) k3,db,<- mH,k5];rw[List.getElem?_take]at hu;split at hu
           . rw[uG (by omega)]; exact hu
           . cases hu)
         obtain⟨cap,rest,h1,h2,h3,h4,h5⟩:=grow (some ⟨x.aL,0,none⟩) n c _ ho hvn (by omega) qX;rw[cF,h5];have fp:=h.grow (mz w);refine sv fp ((k6.take _).append uk) ?_ h3 h4 h1 h2;intro u hu;simp only[fT]at hu;rcases hu with hu|hu
         . refine k7 u ?_;rw[k5];exact List.mem_append_left _ (List.mem_of_mem_take hu)
         . exact xW u hu
     . trivial
   . trivial
 . trivial
end
end Go.Rip
namespace Go.Rip
open Go.RowKit
section
variable {C:de} {g:Gh} {U:St} {w:World}
def eI (AG:Int):Option AV->Option Int
 | none=>some AG
 | some (.int _ n)=>some n
 | _=>none
def yO:mr->Option AV->mr
 | .full,none=>.full
 | _,_=>.iE
def LZ (P:Program) (t:TypeId) (x:AV) (lo hi:Option AV):aC :=
 match x with
 | .str s=>match pq P t,eI 0 lo,eI s.length hi with
   | true,some l,some h=>.cond (0<=l/\l<=h/\h<=s.length) (.val (.str ((s.take h.toNat).drop l.toNat)))
   | _,_,_=>.bad
 | .vec n cap l=>match gh P t,eI 0 lo,eI n hi with
   | some (_,sz),some a,some b=>.cond (0<=a/\a<=b/\b<=n) (.val (.vec (b.toNat-a.toNat) (yO cap hi) ((l.take (b.toNat*sz)).drop (a.toNat*sz))))
   | _,_,_=>.bad
 | .ag=>match gh P t,eI 0 lo,eI 0 hi with
   | some (_,_),some a,some b=>.cond (a=0/\b=0) (.val .ag)
   | _,_,_=>.bad
 | .ms b off n j9 e=>match gh P t,eI 0 lo,eI n hi with
   | some (_,sz),some a,some h=>.cond (0<=a/\a<=h/\h<=n/\(a<n\/a=0)/\j9=sz) (.val (.ms b (off+a.toNat*sz) (h.toNat-a.toNat) j9 e))
   | _,_,_=>.bad
 | _=>.bad
theorem run_sliceBound {P:Program} {x:Value} {k:IntKind} {n:Int} {y:Nat} {code:BoundsCode} (hx:x=.int k n) (h0:0<=n) (h1:n<=y):(Instr.sliceBound x y code).run P w=.ok n.toNat w:=by
 subst hx;simp[Instr.sliceBound,asIntOf,h0,h1]
theorem Ei {AG:Int} {o:Option AV} {v:Option Value} {n:Int} (hr:match o,v with|none,none=>True|some x,some u=>aA g x u|_,_=>False) (hb:eI AG o=some n) :
 (o=none/\v=none/\n=AG)\/∃ k u,v=some u/\u=.int k n/\∃ x,o=some x:=by
 cases o with
 | none =>
   cases v with
   | none=>simp[eI]at hb; exact .inl ⟨rfl,rfl,hb.symm⟩
   | some u=>exact hr.elim
 | some x =>
   cases v with
   | none=>exact hr.elim
   | some u =>
     cases x<;>simp only[eI,reduceCtorEq,iI]at hb
     subst hb;simp only[aA]at hr;exact .inr ⟨_,u,rfl,hr,_,rfl⟩
theorem pU {P:Program} {isS:Bool} {len cap:Nat} {lo hi:Option AV} {vl vh:Option Value} {a b:Int}
 (hl:match lo,vl with|none,none=>True|some x,some u=>aA g x u|_,_=>False) (hh:match hi,vh with|none,none=>True|some x,some u=>aA g x u|_,_=>False)
 (ha:eI 0 lo=some a) (hb:eI len hi=some b) (h0:0<=a) (h1:a<=b) (h2:b<=len) (h3:len<=cap) :
 (Instr.sliceBounds isS len cap vl vh none).run P w=.ok (a.toNat,b.toNat,cap) w:=by
 rcases Ei hl ha with ⟨_,rfl,rfl⟩|⟨k,u,rfl,hu,_⟩<;>rcases Ei hh hb with ⟨_,rfl,rfl⟩|⟨k',u',rfl,pR,_⟩
 . simp[Instr.sliceBounds]
 . have e1:∀ c,(Instr.sliceBound u' cap c).run P w=.ok b.toNat w:=λ c=>run_sliceBound pR (by omega) (by omega);simp[Instr.sliceBounds,e1]
 . have e1:∀ c,(Instr.sliceBound u len c).run P w=.ok a.toNat w:=λ c=>run_sliceBound hu h0 (by omega);simp[Instr.sliceBounds,e1]
 . have e1:∀ c,(Instr.sliceBound u' cap c).run P w=.ok b.toNat w:=λ c=>run_sliceBound pR (by omega) (by omega);have e2:∀ c,(Instr.sliceBound u b.toNat c).run P w=.ok a.toNat w:=λ c=>run_sliceBound hu h0 (by omega);simp[Instr.sliceBounds,e1,e2]
theorem Nl (h:bw g U w) {t:TypeId} {x:AV} {v:Value} {lo hi:Option AV} {vl vh:Option Value} (hx:aA g x v)
 (hl:match lo,vl with|none,none=>True|some x,some u=>aA g x u|_,_=>False) (hh:match hi,vh with|none,none=>True|some x,some u=>aA g x u|_,_=>False) :
 aC.Fits C g U (LZ C.P t x lo hi) ((do let r <- Instr.sliceAt t v vl vh none; pure (Next.value r):Sem Next).run C.P w):=by
 have mA:∀ aL off j,(⟨aL,off,none⟩:Addr).add j=⟨aL,off+j,none⟩:=λ aL off j=>by unfold Addr.add; split<;>simp_all
 unfold LZ;split
 . rename_i s;split
   . rename_i a b ht ha hb;rintro⟨h0,h1,h2⟩;simp only[aA]at hx;subst hx;have fH:(ByteArray.mk s.toArray).size=s.length:=by simp[ByteArray.size]
     have hr:=pU (w:=w) (P:=C.P) (isS:=false) hl hh ha hb h0 h1 h2 (bX _);simp only[Instr.sliceAt,Instr.slice,run_underlying (ra ht),cF,cU,fH,hr,cZ,Option.isSome_none,bZ,if_false];refine bj h ?_;simp only[aA];congr 1;apply ByteArray.ext;simp only[ByteArray.data_extract];apply Array.ext';simp[List.extract_eq_take_drop,List.drop_take]
   . trivial
 . rename_i n cap l;split
   . rename_i e sz a b ht ha hb;rintro⟨h0,h1,h2⟩;simp only[aA]at hx;obtain⟨aL,off,c,vs,rfl,Hw,x6,AS,pF,hr⟩:=hx;obtain⟨i,z,hu,mC,hz,yc,rfl,mD,_⟩:=jO ht;have je:=pU (w:=w) (P:=C.P) (isS:=true) hl hh ha hb h0 h1 h2 Hw;simp only[Instr.sliceAt,Instr.slice,run_underlying hu,cF,cU,je,cZ,fF mC];refine bj h ?_;have ag4:wc g (yO cap hi) aL (if c=a.toNat then off else off+a.toNat*i.size) (b.toNat-a.toNat) (c-a.toNat):=by
      cases cap with
      | full =>
        cases hi with
        | none =>
          simp only[yO,wc]at AS ⊢;simp only[eI,iI]at hb;omega
        | some y=>trivial
      | own τ=>trivial
      | iE=>trivial
     simp only[aA];refine⟨aL,if c=a.toNat then off else off+a.toNat*i.size,c-a.toNat,(vs.take (b.toNat*i.size)).drop (a.toNat*i.size),?_,by omega,by omega,ag4,?_,(hr.take _).drop _⟩
     . simp only[Option.map_some,mA];split<;>rfl
     . split
       . rename_i e1;have:(vs.take (b.toNat*i.size)).drop (a.toNat*i.size)=[]:=by
          rw[List.drop_eq_nil_iff];have:b.toNat<=a.toNat:=by omega
          have:=Nat.mul_le_mul_right i.size this;simp; omega
         rw[this]; intro j u hu; simp at hu
       . intro j u hu;rw[List.getElem?_drop,List.getElem?_take]at hu;split at hu
         . have:=pF _ u hu;rw[Nat.add_assoc]; exact this
         . cases hu
   . trivial
 . split
   . rename_i e sz a b ht ha hb;rintro⟨rfl,rfl⟩;simp only[aA]at hx;subst hx;obtain⟨i,z,hu,mC,hz,yc,rfl,mD,_⟩:=jO ht;have je:=pU (w:=w) (P:=C.P) (isS:=true) (len:=0) (cap:=0) hl hh ha (by simpa using hb) (by omega) (by omega) (by simp) (bX _);simp only[Instr.sliceAt,Instr.slice,run_underlying hu,cF,cU,je,cZ,fF mC];refine bj h (by simp[aA])
   . trivial
 . rename_i b off n j9 e;split
   . rename_i e' sz a hh' ht ha hb;rintro⟨h0,h1,h2,h3,rfl⟩;simp only[aA]at hx;obtain⟨y,c,hy,rfl,Hw,x6,fH,Oe⟩:=hx;obtain⟨i,z,hu,mC,hz,yc,rfl,mD,_⟩:=jO ht;have je:=pU (w:=w) (P:=C.P) (isS:=true) hl hh ha hb h0 h1 h2 Hw;simp only[Instr.sliceAt,Instr.slice,run_underlying hu,cF,cU,je,cZ,fF mC];refine bj h ?_;simp only[aA];have e2:off+a.toNat*i.size+(c-a.toNat)*i.size=y.size:=by
      have:a.toNat*i.size+(c-a.toNat)*i.size=c*i.size:=by rw[<- Nat.add_mul]; congr 1; omega
      omega
     refine⟨y,c-a.toNat,hy,?_,by omega,by omega,e2,Oe⟩;simp only[Option.map_some,mA];split
     . rename_i e1;have h0a:a.toNat=0:=by omega
       simp[h0a]
     . rfl
   . trivial
 . trivial
def lj (op:UnOp) (x:AV):aC :=
 match op,x with
 | .not,.bool b=>.val (.bool (!b))
 | .neg,.int k n=>jS k (0-n)
 | _,_=>.bad
theorem MC (h:bw g U w) (k:IntKind) (n:Int):aC.Fits C g U (jS k n) (.ok (.value (.int k (k.wrap n))) w):=by
 unfold jS;split
 . intro hi;rw[zR hi];exact bj h (by simp only[aA])
 . exact bj h (by simp only[aA])
theorem YV (h:bw g U w) {op:UnOp} {x:AV} {v:Value} (hx:aA g x v):aC.Fits C g U (lj op x) ((do let r <- Op.unary op v; pure (Next.value r):Sem Next).run C.P w):=by
 unfold lj;split
 . simp only[aA]at hx; subst hx;exact bj h (by simp only[aA])
 . simp only[aA]at hx; subst hx;simp only[Op.unary,Op.intArith,cF,cZ,cU];exact MC h _ _
 . trivial
def Qe (P:Program) (t:TypeId):Option IntKind:=match P.underlying t with|some (.int k)=>some k|_=>none
def y5 (P:Program) (t:TypeId):Bool:=match P.underlying t with
 | some (.slice e)=>match P.underlying e with
   | some (.int .u8)=>true
   | _=>false
 | _=>false
theorem IX {P:Program} {t:TypeId} (h:y5 P t=true):∃ e,P.underlying t=some (.slice e)/\P.underlying e=some (.int .u8):=by
 unfold y5 at h;split at h
 . rename_i e he;split at h
   . rename_i hu; exact⟨e,he,hu⟩
   . cases h
 . cases h
def Jb (P:Program) (src dst:TypeId) (x:AV):aC :=
 match Qe P dst,(P.underlying src).isSome,x with
 | some .i64,true,.int _ n=>.cond (wh n) (.val (.int .i64 n))
 | some k,true,.int _ n=>.val (.int k (k.wrap n))
 | none,true,.str s=>if pq P dst=true/\pq P src=true then .val (.str s) else
   if y5 P dst=true/\pq P src=true then .cond (s.length<=4294967296) (.val (.vec s.length .iE (s.map λ b=>.int .u8 b.toNat))) else .bad
 | _,_,_=>.bad
theorem I0 (h:bw g U w) {src dst e:TypeId} {s:List UInt8} (hd:C.P.underlying dst=some (.slice e)) (he:C.P.underlying e=some (.int .u8)) (hs:C.P.underlying src=some .string) (hlen:s.length<=4294967296) :
 aC.Fits C g U (.val (.vec s.length .iE (s.map λ b=>.int .u8 b.toNat))) ((do let r <- convert src dst (.string ⟨s.toArray⟩); pure (Next.value r):Sem Next).run C.P w):=by
 have je:=Lib.run_convert_string_bytes (P:=C.P) w src dst e ⟨s.toArray⟩ hs hd he;have fH:(ByteArray.mk s.toArray).size=s.length:=by simp[ByteArray.size]
 rw[fH]at je;have kV:=grownCap_ge w s.length 0 e;have hle:=grownCap_le_maxLen w s.length 0 e (by unfold maxLen; omega);let vs:List Value:=s.map λ b=>.int .u8 b.toNat;let g':Gh:={ g with cJ:=λ aL o=>if aL=w.heap.size then vs[o]? else g.cJ aL o }
 have rE:∀ o,g'.cJ w.heap.size o=vs[o]?:=λ o=>by show (if w.heap.size=w.heap.size then _ else _)=_; rw[if_pos rfl]
 have hold:∀ aL o,aL≠w.heap.size->g'.cJ aL o=g.cJ aL o:=λ aL o hx=>by show (if aL=w.heap.size then _ else _)=_; rw[if_neg hx]
 have P3:Gh.Le g g':=⟨rfl,rfl,λ _ _ h=>h,λ aL o u hu=>by
  rw[hold _ _ (λ e=>by subst e; rw[h.Cd (bX _)]at hu; cases hu)]; exact hu,λ _ _ h=>h,λ _ h=>h,λ q o hq=>hold _ _ (by have:=h.le; omega),λ _ _=>rfl⟩
 have fp:bw g' U (Lib.bytesWorld w e ⟨s.toArray⟩):=by
  refine h.change w.heap.size h.le P3 rfl rfl ⟨rfl,rfl,rfl,by rw[Lib.bytesWorld_size]; omega⟩ (λ k _ hk=>Lib.bytesWorld_at_old w e _ k hk) hold (λ _ _=>rfl) (λ o u hu=>?_) (λ es c hr=>?_) (λ b x p k1 k2=>Nat.ne_of_lt (h.zp k1 k2)) (h.GH (bX _))
  . rw[rE]at hu;simp only[vs,oA,qN]at hu;obtain⟨b,hb,rfl⟩:=hu;have aN:=(dp.1 hb).1;refine⟨?_,rfl⟩;rw[Lib.bytesWorld_cell w e ⟨s.toArray⟩ o (by rw[fH]; exact aN)];simp[List.getD,hb]
  . have:g.cu w.heap.size=some (es,c):=hr;rw[h.y0 (bX _)]at this; cases this
 simp only[cF,je,cU,cZ];refine⟨_,_,g',.inl rfl,P3,fp,?_⟩;simp only[aA];refine⟨w.heap.size,0,_,vs,rfl,kV,hle,trivial,λ i u hu=>by rw[db,rE]; exact hu,?_⟩;refine aH.Fa (by simp[vs]) λ i x v hx hv=>?_;simp only[vs,oA,qN]at hx hv;obtain⟨b,hb,rfl⟩:=hx;obtain⟨b',eY,rfl⟩:=hv;rw[hb]at eY; cases eY;simp only[aA]
theorem Px (h:bw g U w) {src dst:TypeId} {x:AV} {v:Value} (hx:aA g x v):aC.Fits C g U (Jb C.P src dst x) ((do let r <- convert src dst v; pure (Next.value r):Sem Next).run C.P w):=by
 unfold Jb;split
 . rename_i k n hk hs;simp only[aA]at hx; subst hx;have hu:C.P.underlying dst=some (.int .i64):=by unfold Qe at hk; split at hk<;>simp_all
   obtain⟨d,hd⟩:=Option.isSome_iff_exists.1 hs;intro hi;simp only[convert,run_underlying hu,run_underlying hd,cF,cZ,cU,Conv.intToInt];rw[zR hi];exact bj h (by simp only[aA])
 . rename_i k _ n _ hk hs;simp only[aA]at hx; subst hx;have hu:C.P.underlying dst=some (.int k):=by unfold Qe at hk; split at hk<;>simp_all
   obtain⟨d,hd⟩:=Option.isSome_iff_exists.1 hs;simp only[convert,run_underlying hu,run_underlying hd,cF,cZ,cU,Conv.intToInt];exact bj h (by simp only[aA])
 . split
   . rename_i hc;simp only[aA]at hx; subst hx;simp only[convert,run_underlying (ra hc.1),run_underlying (ra hc.2),cF,cZ,cU];exact bj h (by simp only[aA])
   . split
     . rename_i hc;intro hlen;simp only[aA]at hx; subst hx;obtain⟨e,hd,he⟩:=IX hc.1;exact I0 h hd he (ra hc.2) hlen
     . trivial
 . trivial
def Bk (P:Program) (t:TypeId):Bool:=match P.underlying t with|some (.interface _)=>false|some _=>true|none=>false
def zi (P:Program) (t:TypeId) (x:AV):aC:=if Bk P t=true then .val (.iface t x) else .bad
theorem EY (h:bw g U w) {t:TypeId} {x:AV} {v:Value} (hx:aA g x v):aC.Fits C g U (zi C.P t x) ((do let r <- Instr.makeInterface t v; pure (Next.value r):Sem Next).run C.P w):=by
 unfold zi;split
 . rename_i hc;unfold Bk at hc;split at hc
   . cases hc
   . rename_i d hn hd;simp only[Instr.makeInterface,run_underlying hd,cF,cU];cases d
     case interface=>exact (hn _ rfl).elim
     all_goals
      simp only[cZ,cU];exact bj h (by simp only[aA]; exact⟨v,rfl,hx⟩)
   . cases hc
 . trivial
def aU (x:AV) (i:Nat):aC :=
 match x with
 | .aK l=>jH (l.drop i)
 | _=>.bad
theorem IU (h:bw g U w) {x:AV} {v:Value} (hx:aA g x v) (i:Nat):aC.Fits C g U (aU x i) ((do let r <- Instr.extract v i; pure (Next.value r):Sem Next).run C.P w):=by
 unfold aU;split
 . rename_i l;simp only[aA]at hx;obtain⟨vs,rfl,hr⟩:=hx;cases hd:l.drop i with
   | nil=>trivial
   | cons y ys =>
     have hy:l[i]?=some y:=by
      have:=congrArg (λ l=>l[0]?) hd;simpa using this
     obtain⟨u,hu,hyu⟩:=hr.get hy;have e:vs.toArray[i]?=some u:=by simpa using hu
     simp only[Instr.extract,e,cF,cZ,cU];exact bj h hyu
 . trivial
def vP (x:AV):aC :=
 match x with
 | .iface t v=>.panic (.iface t v)
 | _=>.bad
theorem Nc (h:bw g U w) {x:AV} {v:Value} (hx:aA g x v):aC.Fits C g U (vP x) ((do let r <- Instr.panic v; pure (Next.value r):Sem Next).run C.P w):=by
 unfold vP;split
 . have nq:=hx;simp only[aA]at hx;obtain⟨u,rfl,hu⟩:=hx;simp only[Instr.panic,cF,run_goPanic,Result.andThen_halt];exact⟨_,w,rfl,h,nq⟩
 . trivial
theorem Gx (h:bw g U w) {ev:Operand->Value} {o:Oper} {X:Operand} {x:AV} (ho:o.op=.nilCheck X) (hx:aA g x (ev X)):aC.Fits C g U (aZ x) ((execOp ev o).run C.P w):=by
 unfold aZ;split
 . have nq:=hx;simp only[aA]at hx;obtain⟨y,_,hv⟩:=hx;simp only[execOp,ho,hv,cZ];rw[hv]at nq;exact bj h nq
 . have nq:=hx;simp only[aA]at hx;obtain⟨_,_,_,hv,_⟩:=hx;simp only[execOp,ho,hv,cZ];rw[hv]at nq;exact bj h nq
 . have nq:=hx;simp only[aA]at hx;obtain⟨_,_,hv,_⟩:=hx;simp only[execOp,ho,hv,cZ];rw[hv]at nq;exact bj h nq
 . trivial
def Qm (P:Program) (t:TypeId):Option Bool :=
 match P.underlying t with
 | some .string=>some true
 | some (.slice _)=>some false
 | _=>none
def K9 (P:Program) (t:TypeId) (x:AV) (U:St):aC :=
 match Qm P t,x with
 | some true,.str s=>.val (.int .i64 s.length)
 | some false,.vec n _ _=>.val (.int .i64 n)
 | some false,.ms _ _ n _ _=>.val (.int .i64 n)
 | some false,.ag=>.val (.int .i64 0)
 | _,_=>.bad
theorem wH {P:Program} {t:TypeId} {b:Bool} (h:Qm P t=some b):(b=true/\P.underlying t=some .string)\/(b=false/\∃ e,P.underlying t=some (.slice e)):=by
 unfold Qm at h;split at h
 . rename_i e; simp at h; exact .inl ⟨h,e⟩
 . rename_i e' e; simp at h; exact .inr ⟨h,_,e⟩
 . cases h
theorem Ta (h:bw g U w) {t ty:TypeId} {x:AV} {v:Value} (hx:aA g x v):aC.Fits C g U (K9 C.P t x U) ((do let r <- Builtin.len_ #[t] ty #[v]; pure (Next.value r):Sem Next).run C.P w):=by
 unfold K9;split
 . rename_i s KN;have hu:C.P.underlying t=some .string:=by rcases wH KN with ⟨_,h⟩|⟨h,_⟩<;>first|exact h|cases h
   simp only[aA]at hx; subst hx;have fH:(ByteArray.mk s.toArray).size=s.length:=by simp[ByteArray.size]
   simp[Builtin.len_,run_underlying hu,goInt,fH];exact bj h (by simp only[aA])
 . rename_i KN;obtain⟨e0,hu⟩:∃ e,C.P.underlying t=some (.slice e):=by rcases wH KN with ⟨h,_⟩|⟨_,h⟩<;>first|exact h|cases h
   simp only[aA]at hx;obtain⟨_,_,_,_,rfl,_⟩:=hx;simp[Builtin.len_,run_underlying hu,goInt];exact bj h (by simp only[aA])
 . rename_i KN;obtain⟨e0,hu⟩:∃ e,C.P.underlying t=some (.slice e):=by rcases wH KN with ⟨h,_⟩|⟨_,h⟩<;>first|exact h|cases h
   simp only[aA]at hx;obtain⟨_,_,_,rfl,_⟩:=hx;simp[Builtin.len_,run_underlying hu,goInt];exact bj h (by simp only[aA])
 . rename_i KN;obtain⟨e0,hu⟩:∃ e,C.P.underlying t=some (.slice e):=by rcases wH KN with ⟨h,_⟩|⟨_,h⟩<;>first|exact h|cases h
   simp only[aA]at hx; subst hx;simp[Builtin.len_,run_underlying hu,goInt];exact bj h (by simp only[aA])
 . trivial
def Bh (x y:AV):aC :=
 match x,y with
 | .int k a,.int k' b=>if k=k' then .val (.int k (if b<a then b else a)) else .bad
 | _,_=>.bad
def DH (x y:AV):aC :=
 match x,y with
 | .int k a,.int k' b=>if k=k' then .val (.int k (if b > a then b else a)) else .bad
 | _,_=>.bad
theorem Tf (h:bw g U w) {ts:Array TypeId} {ty:TypeId} {x y:AV} {v u:Value} (hx:aA g x v) (hy:aA g y u):aC.Fits C g U (DH x y) ((do let r <- Builtin.max_ ts ty #[v,u]; pure (Next.value r):Sem Next).run C.P w):=by
 unfold DH;split
 . split
   . rename_i e; subst e;simp only[aA]at hx hy; subst hx hy;simp[Builtin.max_,Builtin.max2];exact bj h (by simp only[aA])
   . trivial
 . trivial
theorem Tg (h:bw g U w) {ts:Array TypeId} {ty:TypeId} {x y:AV} {v u:Value} (hx:aA g x v) (hy:aA g y u):aC.Fits C g U (Bh x y) ((do let r <- Builtin.min_ ts ty #[v,u]; pure (Next.value r):Sem Next).run C.P w):=by
 unfold Bh;split
 . split
   . rename_i e; subst e;simp only[aA]at hx hy; subst hx hy;simp[Builtin.min_,Builtin.min2];exact bj h (by simp only[aA])
   . trivial
 . trivial
end
end Go.Rip
namespace Go.Rip
open Go.RowKit
section
variable {C:de} {g:Gh} {U:St} {w:World}
def ib (place:Nat->Option (Nat×Nat)):List (Nat×AV)->List AV->(List AV->aC)->aC
 | [],z,k=>k z
 | (i,x)::rest,z,k=>match place i with
   | some (off,size)=>.cond (x.dw=true/\(av x).length=size/\off+size<=z.length) (ib place rest (ay z off (av x)) k)
   | none=>.bad
theorem AL (off:Nat):∀ (l:List Value) (j:Nat) (cs:Array Value),off+j+l.length<=cs.size ->
 ((l.zipIdx j).foldl (λ (cs:Array Value) (p:Value×Nat)=>cs.setIfInBounds (off+p.2) p.1) cs).toList=cs.toList.take (off+j)++l++cs.toList.drop (off+j+l.length)
 | [],j,cs,_=>by simp
 | v::l,j,cs,hle=>by
   simp only[List.zipIdx_cons,List.foldl_cons];simp only[eX]at hle;rw[AL off l (j+1) _ (by simp; omega)];have hs:=list_seg_step cs.toList (off+j) v l (by simpa using hle);rw[Array.toList_setIfInBounds];rw[show off+(j+1)=off+j+1 from rfl];exact hs
theorem wv {place:Nat->Option (Nat×Nat)} {k:List AV->aC} {kk:Array Value->Sem Value} {S:String}
 (hk:∀ (z:List AV) (cs:Array Value),aH g z cs.toList->(∀ u∈cs.toList,u.oneCell'=true)->aC.Fits C g U (k z) ((do let r <- kk cs; pure (Next.value r):Sem Next).run C.P w)) :
 ∀ (parts:List (Nat×AV)) (vs:List (Nat×Value)) (z:List AV) (cs:Array Value),vs.length=parts.length->(∀ (i:Nat) (p:Nat×AV) (q:Nat×Value),parts[i]?=some p->vs[i]?=some q->p.1=q.1/\aA g p.2 q.2) ->
  aH g z cs.toList->(∀ u∈cs.toList,u.oneCell'=true) ->
  aC.Fits C g U (ib place parts z k) ((do let r <- (match Instr.fill place cs vs with|some En=>kk En|none=>stuck S); pure (Next.value r):Sem Next).run C.P w)
 | [],[],z,cs,_,_,hz,h1=>by
   simp only[ib,Instr.fill];exact hk z cs hz h1
 | [],_::_,_,_,h,_,_,_=>by simp at h
 | _::_,[],_,_,h,_,_,_=>by simp at h
 | (i,x)::parts,(j,v)::vs,z,cs,hl,hp,hz,h1=>by
   obtain⟨rfl,hx⟩:=hp 0 _ _ rfl rfl;dsimp only at hx ⊢;simp only[ib];cases nj:place i with
   | none=>trivial
   | some os =>
     obtain⟨off,size⟩:=os;rintro⟨a1,a2,a3⟩;obtain⟨vF,x5⟩:=AA hx a1;have hlen:=vF.length;have KS:=hz.length;have A8:v.cells.size=size:=by rw[<- uH,hlen,a2]
     have hcz:off+v.cells.size<=cs.size:=by rw[A8,<- uH,KS]; exact a3
     have e:(v.cells.zipIdx.foldl (λ (cs:Array Value) (p:Value×Nat)=>cs.setIfInBounds (off+p.2) p.1) cs).toList=cs.toList.take off++v.cells.toList++cs.toList.drop (off+v.cells.toList.length):=by
      rw[<- Array.foldl_toList,Array.toList_zipIdx];have:=AL off v.cells.toList 0 cs (by simpa using hcz);simpa using this
     have ag6:(v.cells.size≠size||off+v.cells.size > cs.size)=false:=by simp[A8]; omega
     simp only[Instr.fill,nj];rw[if_neg (by rw[ag6]; simp)];refine wv hk parts vs _ _ (by simpa using hl) (λ i p q h2 h3=>hp (i+1) p q (by simpa using h2) (by simpa using h3)) ?_ ?_
     . show aH g (ay z off (av x)) (v.cells.zipIdx.foldl (λ (cs:Array Value) (p:Value×Nat)=>cs.setIfInBounds (off+p.2) p.1) cs).toList;rw[e];unfold ay;rw[hlen];exact ((hz.take _).append vF).append (hz.drop _)
     . show ∀ u∈(v.cells.zipIdx.foldl (λ (cs:Array Value) (p:Value×Nat)=>cs.setIfInBounds (off+p.2) p.1) cs).toList,u.oneCell'=true;rw[e];intro u hu;simp only[fT]at hu;rcases hu with (hu|hu)|hu
       . exact h1 u (List.mem_of_mem_take hu)
       . exact x5 u hu
       . exact h1 u (List.mem_of_mem_drop hu)
def og (C:de) (ρ:Env) (parts:Array (Nat×Operand)):List (Nat×AV):=parts.toList.map λ p=>(p.1,ρ.ev C p.2)
def JR (P:Program) (t:TypeId) (parts:List (Nat×AV)):aC :=
 match Cy P t,rA P t with
 | some pl,some z=>ib (λ i=>pl[i]?) parts z λ z=>.val (.agg z)
 | none,some z=>match xg P t with
   | some (_,_,sz)=>ib (λ i=>some (i*sz,sz)) parts z λ z=>.val (.agg z)
   | none=>.bad
 | _,_=>.bad
theorem Me {P:Program} {t:TypeId} {pl:List (Nat×Nat)} (h:Cy P t=some pl):∃ fs:Array Field,P.underlying t=some (.struct fs)/\pl=fs.toList.map (λ f=>(f.offset,P.cellsOf f.type)) /\
 (fs.mapM (λ f=>do pure (f.offset,<- sizeOf f.type):Field->Sem (Nat×Nat))).run P w=.ok pl.toArray w:=by
 unfold Cy at h;split at h
 . rename_i fs hu;split at h
   . rename_i ck;simp only[iI]at h;refine⟨fs,hu,h.symm,?_⟩;rw[Array.mapM_eq_mapM_toList];rw[Array.all_eq_true_iff_forall_mem]at ck;have key:∀ l:List Field,(∀ f∈l,(P.info? f.type).isSome=true)->(l.mapM (λ f=>do pure (f.offset,<- sizeOf f.type):Field->Sem (Nat×Nat))).run P w=.ok (l.map λ f=>(f.offset,P.cellsOf f.type)) w:=by
      intro l
      induction l with
      | nil=>intro _; simp
      | cons f l ih =>
        intro hf;obtain⟨i,hi⟩:=Option.isSome_iff_exists.1 (hf f (by simp));have ih':=ih λ x hx=>hf x (by simp[hx]);have hc:P.cellsOf f.type=i.size:=by simp[Program.cellsOf,hi]
        simp only[List.mapM_cons,cF,fF hi,cU,cZ,ih',dH,hc]
     have:=key fs.toList (λ f hf=>ck f (by simpa using hf));simp only[Sem.run_map,this,cU,h]
   . cases h
 . cases h
theorem MG (h:bw g U w) {t:TypeId} {parts:List (Nat×AV)} {vs:Array (Nat×Value)} (hl:vs.size=parts.length) (hp:∀ (i:Nat) (p:Nat×AV) (q:Nat×Value),parts[i]?=some p->vs[i]?=some q->p.1=q.1/\aA g p.2 q.2) :
 aC.Fits C g U (JR C.P t parts) ((do let r <- Instr.build t vs; pure (Next.value r):Sem Next).run C.P w):=by
 unfold JR;split
 . rename_i pl z hs hz;obtain⟨fs,hu,nj,je⟩:=Me (w:=w) hs;obtain⟨i,zv,hi,vJ,hm⟩:=pj hz;obtain⟨h1,h2⟩:=fE (g:=g) hm
   have key:=wv (C:=C) (g:=g) (U:=U) (w:=w) (place:=λ i=>pl.toArray[i]?) (k:=λ z=>.val (.agg z)) (kk:=λ cs=>pure (.agg cs)) (S := "build: no such field, or a part of the wrong size") (λ z cs hz h1=>by
    simp only[cF,cZ,cU];exact bj h (by simp only[aA]; exact⟨cs.toList,by simp,h1,hz⟩)) parts vs.toList z zv.cells (by simpa using hl) (λ i p q h1 h2=>hp i p q h1 (by simpa using h2)) h1 h2
   have e:(λ i:Nat=>pl.toArray[i]?)=λ i=>pl[i]?:=by funext i; simp
   rw[<- e];simp only[Instr.build,cF,iJ hi vJ,cU,run_underlying hu,je];cases hf:Instr.fill (λ i:Nat=>pl.toArray[i]?) zv.cells vs.toList with
   | none=>simp only[hf,cF,run_stuck,Result.andThen_halt]at key ⊢; exact key
   | some En=>simp only[hf,cF,cZ,cU]at key ⊢; exact key
 . rename_i z hs hz;split
   . rename_i n e sz ha;obtain⟨ie,hu,hie,fH⟩:=wi ha;obtain⟨i,zv,hi,vJ,hm⟩:=pj hz;obtain⟨h1,h2⟩:=fE (g:=g) hm
     have key:=wv (C:=C) (g:=g) (U:=U) (w:=w) (place:=λ i=>some (i*sz,sz)) (k:=λ z=>.val (.agg z)) (kk:=λ cs=>pure (.agg cs)) (S := "build: a part of the wrong size") (λ z cs hz h1=>by
      simp only[cF,cZ,cU];exact bj h (by simp only[aA]; exact⟨cs.toList,by simp,h1,hz⟩)) parts vs.toList z zv.cells (by simpa using hl) (λ i p q h1 h2=>hp i p q h1 (by simpa using h2)) h1 h2
     simp only[Instr.build,cF,iJ hi vJ,cU,run_underlying hu,fF hie,fH];cases hf:Instr.fill (λ i:Nat=>some (i*sz,sz)) zv.cells vs.toList with
     | none=>simp only[hf,cF,run_stuck,Result.andThen_halt]at key ⊢; exact key
     | some En=>simp only[hf,cF,cZ,cU]at key ⊢; exact key
   . trivial
 . trivial
end
end Go.Rip
namespace Go.Rip
open Go.RowKit
section
variable {C:de} {g:Gh} {U:St} {w:World}
def bT:Nat->List AV->List AV
 | 0,_=>[]
 | n+1,z=>z++bT n z
theorem mX (z:List AV):∀ n,(bT n z).length=n*z.length
 | 0=>by simp[bT]
 | n+1=>by simp[bT,mX z n,Nat.add_mul]; omega
theorem vd {z:List AV} {zv:Array Value} (hz:aH g z zv.toList):∀ n,aH g (bT n z) ((Array.range (n*zv.size)).map (zv[·%zv.size]!)).toList:=λ n=>by
 have hl:z.length=zv.size:=by rw[<- hz.length]; simp
 refine aH.Fa (by simp[mX,hl]) λ i x v hx hv=>?_;have key:∀ n i x,(bT n z)[i]?=some x->z[i%zv.size]?=some x:=λ n=>by
  induction n with
  | zero=>intro i x hx; simp[bT]at hx
  | succ n ih =>
    intro i x hx;simp only[bT]at hx
    by_cases hi:i<z.length
    . rw[uG hi]at hx;rw[Nat.mod_eq_of_lt (by omega)]; exact hx
    . rw[List.getElem?_append_right (by omega)]at hx;have:=ih _ _ hx;rw[hl,<- Nat.mod_eq_sub_mod (by omega)]at this;exact this
 have nq:=key n i x hx;obtain⟨u,hu,hr⟩:=hz.get nq;simp only[Array.toList_map,oA,qN]at hv;obtain⟨j,hj,rfl⟩:=hv;have N0:j=i:=by
  rw[mH,Array.getElem?_range]at hj;split at hj
  . simp at hj; exact hj.symm
  . cases hj
 subst N0;have aN:j%zv.size<zv.size:=by
  have:=(dp.1 hu).1;simpa using this
 rw[getElem!_pos zv _ aN];rw[mH,getElem?_pos zv _ aN]at hu;cases hu;exact hr
def tT (P:Program) (t:TypeId) (n:Nat) (mu:Bool) (parts:List (Nat×AV)):aC :=
 match gh P t with
 | some (e,sz)=>match rA P e with
   | some z=>.cond (n*sz<=16777216) (ib (λ i=>some (i*sz,sz)) parts (bT n z) λ cs=>.cond (cs.length=n*sz) (if mu then .qx n sz e none cs else .val (.vec n .full cs)))
   | none=>.bad
 | none=>.bad
theorem Ds (h:bw g U w) {t:TypeId} {n:Nat} {mu:Bool} {parts:List (Nat×AV)} {vs:Array (Nat×Value)} (hl:vs.size=parts.length) (hp:∀ (i:Nat) (p:Nat×AV) (q:Nat×Value),parts[i]?=some p->vs[i]?=some q->p.1=q.1/\aA g p.2 q.2) :
 aC.Fits C g U (tT C.P t n mu parts) ((do let r <- Instr.buildSlice t n vs; pure (Next.value r):Sem Next).run C.P w):=by
 unfold tT;split
 . rename_i e sz hs;split
   . rename_i z hz;intro hn;obtain⟨i,zv,hu,hi,p8,yc,rfl,mD,_,h1⟩:=jO hs;obtain⟨i',zv',mC,vJ,hm⟩:=pj hz;rw[hi]at mC; cases mC;rw[p8]at vJ; cases vJ;obtain⟨h1,h2⟩:=fE (g:=g) hm;have KF:¬ (n*i.size > 2 ^ 24):=by omega
     have hzc:=vd (g:=g) h1 n;have key:=wv (C:=C) (g:=g) (U:=U) (w:=w) (place:=λ j=>some (j*i.size,i.size)) (k:=λ cs=>.cond (cs.length=n*i.size) (if mu then .qx n i.size e none cs else .val (.vec n .full cs)))
      (kk:=λ cs=>do pure (.slice (some (<- newRow e cs)) n n)) (S := "buildSlice: a part of the wrong size") (λ z cs hz vF=>by
      intro hlen;have x7:cs.size=n*i.size:=by rw[<- uH,hz.length,hlen]
      have Hx:n<=maxLen:=by
       have:n<=n*i.size:=Nat.le_mul_of_pos_right _ mD;unfold maxLen; omega
      simp only[newRow,cF,cZ,run_newObj,cU];split
      . have:=sv (C:=C) (del:=none) (e:=e) (sz:=i.size) (n:=n) (c:=n) h (vs:=cs.toList) (rest:=[]) hz vF (by simp) (by simp[x7]) (bX _) Hx;simpa using this
      . obtain⟨g',hle,pF,_,_,fp⟩:=h.Tl e cs cs.toList [] (by simp) vF;refine⟨_,_,g',.inl rfl,hle,fp,?_⟩;simp only[aA];exact⟨w.heap.size,0,n,cs.toList,rfl,bX _,Hx,rfl,pF,hz.mono hle⟩) parts vs.toList (bT n z) ((Array.range (n*zv.cells.size)).map (zv.cells[·%zv.cells.size]!)) (by simpa using hl) (λ i p q h1 h2=>hp i p q h1 (by simpa using h2)) hzc (by
        intro u hu;simp only[Array.toList_map,List.mem_map]at hu;obtain⟨j,_,rfl⟩:=hu;have aN:j%zv.cells.size<zv.cells.size:=Nat.mod_lt _ (by omega);rw[getElem!_pos zv.cells _ aN];exact h2 _ (by simp))
     simp only[Instr.buildSlice,cF,run_underlying hu,fF hi,cU,if_neg KF,fX,iJ hi p8,cZ]
     by_cases h0:n*i.size=0
     . have EG:n=0:=by
        rcases Nat.mul_eq_zero.1 h0 with h|h
        . exact h
        . omega
       subst EG;simp only[Nat.zero_mul,if_true,cU]at key ⊢;have e1:(Array.range 0).map ((#[]:Array Value)[·%(#[]:Array Value).size]!)=(Array.range 0).map (zv.cells[·%zv.cells.size]!):=by simp
       rw[e1];cases hf:Instr.fill (λ j=>some (j*i.size,i.size)) ((Array.range 0).map (zv.cells[·%zv.cells.size]!)) vs.toList with
       | none=>simp only[hf,cF,run_stuck,Result.andThen_halt]at key ⊢; exact key
       | some En=>simp only[hf,cF,cZ,cU]at key ⊢; exact key
     . simp only[if_neg h0,cU];rw[yc]at key ⊢;cases hf:Instr.fill (λ j=>some (j*i.size,i.size)) ((Array.range (n*i.size)).map (zv.cells[·%i.size]!)) vs.toList with
       | none=>simp only[hf,cF,run_stuck,Result.andThen_halt]at key ⊢; exact key
       | some En=>simp only[hf,cF,cZ,cU]at key ⊢; exact key
   . trivial
 . trivial
def sH (P:Program) (t:TypeId):Option (FK×TypeId) :=
 match P.underlying t with
 | some (.map k e)=>match P.underlying k with
   | some (.int _)=>some (.i,e)
   | some .string=>some (.s,e)
   | _=>none
 | _=>none
def jg:FK->AV->AV->Option Bool
 | .i,.int k a,.int k' b=>if k=k' then some (a==b) else none
 | .s,.str a,.str b=>some (a==b)
 | _,_,_=>none
def rn:FK->AV->Bool
 | .i,.int _ _=>true
 | .s,.str _=>true
 | _,_=>false
def ng (fk:FK) (k:AV):List AV->Nat->Option (Option Nat)
 | [],_=>some none
 | y::ys,i=>match jg fk k y with
   | none=>none
   | some b=>if b=true then some (some i) else ng fk k ys (i+1)
def iH (k v:AV):List AV->List AV->List AV×List AV
 | [],_=>([k],[v])
 | y::ys,ws=>if kP k y=true then (k::y::ys,v::ws) else
   match ws with
   | []=>([k],[v])
   | x::xs=>(y::(iH k v ys xs).1,x::(iH k v ys xs).2)
def sI (P:Program) (t:TypeId) (m k v:AV) (U:St):aC :=
 match sH P t,m with
 | some (fk,_),.mp id=>match U.mp id with
   | some (ks,vs)=>match ng fk k ks 0,rn fk k with
     | some none,true=>.jG (.aK []) id (.mp (iH k v ks vs).1 (iH k v ks vs).2)
     | some (some i),true=>.jG (.aK []) id (.mp ks (vs.set i v))
     | _,_=>.bad
   | none=>.bad
 | _,_=>.bad
def lH (U:St):AV->Option (List AV×List AV)
 | .mp id=>U.mp id
 | .gJ ks vs=>some (ks,vs)
 | .kx=>some ([],[])
 | _=>none
def oZ (fk:FK) (k:AV) (AG:AV) (ok:Bool):List AV->List AV->aC
 | y::ys,v::vs=>match jg fk k y with
   | none=>.bad
   | some b=>if b=true then .val (if ok then .aK [v,.bool true] else v) else oZ fk k AG ok ys vs
 | _,_=>.val (if ok then .aK [AG,.bool false] else AG)
def zeroV (P:Program) (t:TypeId):Option AV:=((P.info? t).bind (·.zero)).map Hg
def yj (P:Program) (t:TypeId) (m k:AV) (ok:Bool) (U:St):aC :=
 match sH P t,lH U m with
 | some (fk,e),some (ks,vs)=>match zeroV P e,rn fk k with
   | some z,true=>oZ fk k z ok ks vs
   | _,_=>.bad
 | _,_=>.bad
theorem Bg {P:Program} {t e:TypeId} {fk:FK} (h:sH P t=some (fk,e)):∃ k,P.underlying t=some (.map k e)/\((fk=.i/\∃ q,P.underlying k=some (.int q))\/(fk=.s/\P.underlying k=some .string)):=by
 unfold sH at h;split at h
 . rename_i k e' hu;split at h
   . rename_i q hq;simp only[iI,hY]at h;obtain⟨rfl,rfl⟩:=h;exact⟨k,hu,.inl ⟨rfl,q,hq⟩⟩
   . rename_i hq;simp only[iI,hY]at h;obtain⟨rfl,rfl⟩:=h;exact⟨k,hu,.inr ⟨rfl,hq⟩⟩
   . cases h
 . cases h
theorem uZ {P:Program} {k:TypeId} {fk:FK} {d:TypeDesc} (hd:P.underlying k=some d) (hk:(fk=.i/\∃ q,d=.int q)\/(fk=.s/\d=.string)) {x y:AV} {u v:Value} {b:Bool} (hx:aA g x u) (hy:aA g y v) (h:jg fk x y=some b) :
 Instr.sameNow d u v=some b:=by
 rcases hk with ⟨rfl,q,rfl⟩|⟨rfl,rfl⟩<;>cases x<;>cases y<;>simp only[jg,reduceCtorEq]at h
 . split at h
   . rename_i e; subst e;simp only[aA]at hx hy; subst hx hy;simp at h; subst h;simp[Instr.sameNow]
   . cases h
 . simp only[aA]at hx hy; subst hx hy;simp only[iI]at h; subst h;simp only[Instr.sameNow,beq_toListBytes,ByteArray.toList_eq,List.toList_toArray]
theorem findNow_spec {d:TypeDesc} {u:Value}:∀ (es:List MapEntry) (i:Nat),(∀ e∈es,∃ b,Instr.sameNow d u e.key=some b) ->
 ((∀ e∈es,Instr.sameNow d u e.key=some false)/\Instr.findNow d u es i=some none) \/
 (∃ j e,es[j]?=some e/\Instr.sameNow d u e.key=some true/\Instr.findNow d u es i=some (some (i+j,e.val)))
 | [],i,_=>.inl ⟨by simp,by simp[Instr.findNow]⟩
 | e::es,i,h=>by
   obtain⟨b,hb⟩:=h e (by simp);cases b
   . rcases findNow_spec es (i+1) (λ x hx=>h x (by simp[hx])) with ⟨h1,h2⟩|⟨j,e',h1,h2,h3⟩
     . refine .inl ⟨λ x hx=>?_,by simp[Instr.findNow,hb,h2]⟩;rcases cK.1 hx with rfl|hx
       . exact hb
       . exact h1 x hx
     . exact .inr ⟨j+1,e',by simpa using h1,h2,by simp[Instr.findNow,hb,h3]; omega⟩
   . exact .inr ⟨0,e,by simp,hb,by simp[Instr.findNow,hb]⟩
theorem xo {fk:FK} {k y:AV} (h:jg fk k y=some true):k=y:=by
 cases fk<;>cases k<;>cases y<;>simp only[jg,reduceCtorEq]at h
 . split at h
   . rename_i e; subst e; simp at h; rw[h]
   . cases h
 . simp at h; rw[h]
theorem Qi (k:AV):kP k k=false:=by
 cases k<;>simp[kP]
theorem M4 {a b c:AV} (h:kP a b=true) (h':kP b c=true):kP a c=true:=by
 cases a<;>cases b<;>simp only[kP,bZ]at h<;>cases c<;>simp only[kP,bZ,cb,eg]at h h' ⊢
 . exact⟨h.1.trans h'.1,by omega⟩
 . exact List.lt_trans h h'
theorem XE {fk:FK} {k y:AV} (h:jg fk k y=some false):kP k y=true\/kP y k=true:=by
 cases fk<;>cases k<;>cases y<;>simp only[jg,reduceCtorEq]at h
 . split at h
   . rename_i e; subst e; simp at h; simp[kP]; omega
   . cases h
 . simp at h;simp only[kP,eg];rcases Classical.em ((_:List UInt8)<_) with hl|hl
   . exact .inl hl
   . refine .inr ?_;rcases Classical.em ((_:List UInt8)<_) with pP|pP
     . exact pP
     . exact absurd (List.le_antisymm (List.not_lt.1 pP) (List.not_lt.1 hl)) h
theorem ER {fk:FK} {k y z:AV} (h:jg fk k y=some true) (hz:kP y z=true\/kP z y=true):∃ b,jg fk k z=some b:=by
 have:=xo h;subst this;cases fk<;>cases k<;>cases z<;>simp[jg,kP]at h hz ⊢
 rcases hz with ⟨e,_⟩|⟨e,_⟩
 . exact e
 . exact e.symm
theorem yS {fk:FK} {k:AV}:∀ {ks:List AV} {s:Nat} {r:Option Nat},ng fk k ks s=some r ->
 (r=none/\∀ y∈ks,jg fk k y=some false)\/(∃ i,r=some (s+i)/\∃ y,ks[i]?=some y/\jg fk k y=some true)
 | [],s,r,h=>by simp only[ng,iI]at h; exact .inl ⟨h.symm,by simp⟩
 | y::ys,s,r,h=>by
   simp only[ng]at h;split at h
   . cases h
   . rename_i b hb;cases b
     . simp only[bZ,if_false]at h;rcases yS h with ⟨h1,h2⟩|⟨i,h1,z,h2,h3⟩
       . refine .inl ⟨h1,λ z hz=>?_⟩;rcases cK.1 hz with rfl|hz
         . exact hb
         . exact h2 z hz
       . exact .inr ⟨i+1,by rw[h1]; congr 1; omega,z,by simpa using h2,h3⟩
     . simp only[if_true,iI]at h;exact .inr ⟨0,by rw[<- h]; rfl,y,by simp,hb⟩
theorem QY {ks:List AV} (h:qQ ks) {i j:Nat} {y:AV} (hi:ks[i]?=some y) (hj:ks[j]?=some y):i=j:=by
 have key:∀ i j,i<j->ks[i]?=some y->ks[j]?=some y->False:=λ i j gq hi hj=>by
  obtain⟨h1,h2⟩:=dp.1 hi;obtain⟨h3,h4⟩:=dp.1 hj;have:=List.pairwise_iff_getElem.1 h i j h1 h3 gq;rw[h2,h4,Qi]at this; cases this
 rcases Nat.lt_trichotomy i j with h|h|h
 . exact (key i j h hi hj).elim
 . exact h
 . exact (key j i h hj hi).elim
theorem Dw {P:Program} {kt:TypeId} {fk:FK} {d:TypeDesc} (hd:P.underlying kt=some d) (hk:(fk=.i/\∃ q,d=.int q)\/(fk=.s/\d=.string)) {x:AV} {u:Value} (hx:aA g x u)
 {ks:List AV} {l es:List MapEntry} (hp:l.Perm es) (hs:qQ ks) (hr:aH g ks (l.map (·.key))) {r:Option Nat} (h:ng fk x ks 0=some r) :
 (r=none/\(∀ y∈ks,jg fk x y=some false)/\∀ i,Instr.findNow d u es i=some none) \/
 (∃ i j e,r=some i/\ks[i]?=some x/\l[i]?=some e/\es[j]?=some e/\aA g x e.key/\∀ s,Instr.findNow d u es s=some (some (s+j,e.val))):=by
 have mem:∀ e∈es,∃ i y,ks[i]?=some y/\l[i]?=some e/\aA g y e.key:=λ e he=>by
  obtain⟨i,hi⟩:=List.getElem?_of_mem (hp.mem_iff.2 he);have aN:i<ks.length:=by
   have h1:=(dp.1 hi).1;have:=hr.length;simp at this; omega
  obtain⟨v,hv,SK⟩:=hr.get (i:=i) (x:=ks[i]) (qM aN);rw[oA,hi]at hv;simp at hv;subst hv;exact⟨i,ks[i],qM aN,hi,SK⟩
 rcases yS h with ⟨rfl,h1⟩|⟨i,rfl,y,h1,h2⟩
 . refine .inl ⟨rfl,h1,λ s=>?_⟩;have hf:∀ e∈es,Instr.sameNow d u e.key=some false:=λ e he=>by
    obtain⟨i,y,hy,_,SN⟩:=mem e he;exact uZ (P:=P) hd hk hx SN (h1 y (gw hy))
   rcases findNow_spec es s (λ e he=>⟨_,hf e he⟩) with ⟨_,h2⟩|⟨j,e,q1,q2,_⟩
   . exact h2
   . rw[hf e (gw q1)]at q2; cases q2
 . have C1:=xo h2;subst C1;have all:∀ z∈ks,∃ b,jg fk x z=some b:=λ z hz=>by
    obtain⟨j,hj⟩:=List.getElem?_of_mem hz;rcases Nat.lt_trichotomy i j with gq|gq|gq
    . obtain⟨a1,a2⟩:=dp.1 h1;obtain⟨a3,a4⟩:=dp.1 hj;have:=List.pairwise_iff_getElem.1 hs i j a1 a3 gq;rw[a2,a4]at this;exact ER h2 (.inl this)
    . subst gq; rw[h1]at hj; cases hj; exact⟨_,h2⟩
    . obtain⟨a1,a2⟩:=dp.1 h1;obtain⟨a3,a4⟩:=dp.1 hj;have:=List.pairwise_iff_getElem.1 hs j i a3 a1 gq;rw[a2,a4]at this;exact ER h2 (.inr this)
   have same:∀ e∈es,∃ b,Instr.sameNow d u e.key=some b:=λ e he=>by
    obtain⟨i,y,hy,_,SN⟩:=mem e he;obtain⟨b,hb⟩:=all y (gw hy);exact⟨b,uZ (P:=P) hd hk hx SN hb⟩
   have Kz:∃ e0,l[i]?=some e0/\aA g x e0.key:=by
    obtain⟨v,hv,SK⟩:=hr.get h1;rw[oA,qN]at hv;obtain⟨e0,h3,rfl⟩:=hv;exact⟨e0,h3,SK⟩
   obtain⟨e0,wD,aez⟩:=Kz;have h0s:Instr.sameNow d u e0.key=some true:=uZ (P:=P) hd hk hx aez h2;have h0m:e0∈es:=hp.mem_iff.1 (gw wD);have pick:∀ s,∃ j,es[j]?=some e0/\Instr.findNow d u es s=some (some (s+j,e0.val)):=λ s=>by
    rcases findNow_spec es s same with ⟨q1,_⟩|⟨j,e,q1,q2,q3⟩
    . rw[q1 e0 h0m]at h0s; cases h0s
    . obtain⟨i',y,hy,qW,SN⟩:=mem e (gw q1);obtain⟨b,hb⟩:=all y (gw hy);have Oa:=uZ (P:=P) hd hk hx SN hb;rw[q2]at Oa;simp only[iI]at Oa;subst Oa;have C1:=xo hb;subst C1;have hii:=QY hs h1 hy;subst hii;rw[wD]at qW; cases qW;exact⟨j,q1,q3⟩
   obtain⟨j,hj,hjf⟩:=pick 0;refine .inr ⟨i,j,e0,by rw[db],h1,wD,hj,aez,λ s=>?_⟩;have shift:∀ (es:List MapEntry) (a b:Nat) j v,Instr.findNow d u es a=some (some (a+j,v))->Instr.findNow d u es b=some (some (b+j,v)):=λ es=>by
    induction es with
    | nil=>intro a b j v h; simp[Instr.findNow]at h
    | cons e es ih =>
      intro a b j v h;simp only[Instr.findNow]at h ⊢;cases Ae:Instr.sameNow d u e.key with
      | none=>rw[Ae]at h; cases h
      | some t =>
        rw[Ae]at h;cases t
        . dsimp only at h ⊢;have hle:∀ (es:List MapEntry) (a:Nat) r v,Instr.findNow d u es a=some (some (r,v))->a<=r:=λ es=>by
           induction es with
           | nil=>intro a r v h; simp[Instr.findNow]at h
           | cons e es ih =>
             intro a r v h;simp only[Instr.findNow]at h;cases Ae:Instr.sameNow d u e.key with
             | none=>rw[Ae]at h; cases h
             | some t =>
               rw[Ae]at h;cases t
               . have:=ih _ _ _ h; omega
               . simp at h; omega
          have h1:=hle _ _ _ _ h;have:=ih (a+1) (b+1) (j-1) v (by rw[h]; congr 3; omega);rw[this]; congr 3; omega
        . simp at h ⊢; obtain⟨h1,h2⟩:=h; exact⟨by omega,h2⟩
   exact shift es 0 s j _ hjf
theorem X0 {α:Type} {l m:List α} (h:l.Perm m) {i j:Nat} {e:α} (hi:l[i]?=some e) (hj:m[j]?=some e) (e':α):(l.set i e').Perm (m.set j e'):=by
 obtain⟨h1,h2⟩:=dp.1 hi;obtain⟨h3,h4⟩:=dp.1 hj;have el:l=l.take i++e::l.drop (i+1):=by
  conv=>lhs; rw[<- List.take_append_drop i l,gM h1,h2]
 have em:m=m.take j++e::m.drop (j+1):=by
  conv=>lhs; rw[<- List.take_append_drop j m,gM h3,h4]
 rw[List.set_eq_take_append_cons_drop,if_pos h1,List.set_eq_take_append_cons_drop,if_pos h3];have hp:(l.take i++e::l.drop (i+1)).Perm (m.take j++e::m.drop (j+1)):=by rw[<- el,<- em]; exact h
 have h5:=(List.perm_middle.symm.trans hp).trans List.perm_middle;have h6:=List.Perm.cons_inv h5;exact (List.perm_middle.trans (h6.cons e')).trans List.perm_middle.symm
theorem run_checkKey {P:Program} {k:TypeId} {d:TypeDesc} {em:Bool} (hd:P.underlying k=some d) (hk:(∃ q,d=.int q)\/d=.string) (n:Nat) (v:Value):(Instr.checkKey em (n+1) k v).run P w=.ok () w:=by
 rcases hk with ⟨q,rfl⟩|rfl<;>simp[Instr.checkKey,run_underlying hd]
theorem aH.set:∀ {l:List AV} {vs:List Value} {x:AV} {u:Value} (i:Nat),aH g l vs->aA g x u->aH g (l.set i x) (vs.set i u)
 | [],_,_,_,_,h,_=>by simp only[aH]at h; subst h; simp[aH]
 | y::ys,_,x,u,0,h,hx=>by
   simp only[aH]at h;obtain⟨v,vs,rfl,h1,h2⟩:=h;simp only[List.set_cons_zero,aH];exact⟨u,vs,rfl,hx,h2⟩
 | y::ys,_,x,u,i+1,h,hx=>by
   simp only[aH]at h;obtain⟨v,vs,rfl,h1,h2⟩:=h;simp only[List.set_cons_succ,aH];exact⟨v,_,rfl,h1,aH.set i h2 hx⟩
theorem KX {k v:AV} {e:MapEntry} (hk:aA g k e.key) (hv:aA g v e.val):∀ (ks vs:List AV) (l:List MapEntry),aH g ks (l.map (·.key))->aH g vs (l.map (·.val)) ->
 ∃ l':List MapEntry,l'.Perm (e::l)/\aH g (iH k v ks vs).1 (l'.map (·.key))/\aH g (iH k v ks vs).2 (l'.map (·.val))
 | [],vs,l,h1,h2=>by
   simp only[aH,List.map_eq_nil_iff]at h1;subst h1;exact⟨[e],List.Perm.refl _,by simp only[iH,dH,oB,aH]; exact⟨_,_,rfl,hk,rfl⟩,by simp only[iH,dH,oB,aH]; exact⟨_,_,rfl,hv,rfl⟩⟩
 | y::ks,vs,[],h1,h2=>by simp[aH]at h1
 | y::ks,[],f::l,h1,h2=>by simp[aH]at h2
 | y::ks,x::vs,f::l,h1,h2=>by
   simp only[iH]
   by_cases aN:kP k y=true
   . rw[if_pos aN];exact⟨e::f::l,List.Perm.refl _,by rw[dH]; simp only[aH]at h1 ⊢; exact⟨_,_,rfl,hk,h1⟩,by rw[dH]; simp only[aH]at h2 ⊢; exact⟨_,_,rfl,hv,h2⟩⟩
   . rw[if_neg aN];simp only[aH,dH,List.cons.injEq]at h1 h2;obtain⟨_,_,⟨rfl,rfl⟩,hy,h1⟩:=h1;obtain⟨_,_,⟨rfl,rfl⟩,hx,h2⟩:=h2;obtain⟨l',h3,h4,h5⟩:=KX hk hv ks vs l h1 h2;exact⟨f::l',((h3.cons f).trans (List.Perm.swap e f l)),by simp only[dH,aH]; exact⟨_,_,rfl,hy,h4⟩,by simp only[dH,aH]; exact⟨_,_,rfl,hx,h5⟩⟩
theorem y3 {k v:AV}:∀ (ks vs:List AV) (z:AV),z∈(iH k v ks vs).1->z=k\/z∈ks
 | [],vs,z,h=>by simp[iH]at h; exact .inl h
 | y::ks,vs,z,h=>by
   simp only[iH]at h;split at h
   . simpa using h
   . split at h
     . simp at h; exact .inl h
     . rename_i x xs;simp only[cK]at h ⊢;rcases h with h|h
       . exact .inr (.inl h)
       . rcases y3 ks xs z h with h|h
         . exact .inl h
         . exact .inr (.inr h)
theorem C3 {k v:AV}:∀ (ks vs:List AV),qQ ks->(∀ y∈ks,kP k y=true\/kP y k=true)->qQ (iH k v ks vs).1
 | [],vs,h1,h2=>by simp[iH,qQ]
 | y::ks,vs,h1,h2=>by
   unfold qQ at h1 ⊢;rw[List.pairwise_cons]at h1;simp only[iH];split
   . rename_i aN;rw[List.pairwise_cons,List.pairwise_cons];refine⟨λ z hz=>?_,h1⟩;rcases cK.1 hz with rfl|hz
     . exact aN
     . exact M4 aN (h1.1 z hz)
   . rename_i aN;split
     . simp
     . rename_i x xs;rw[List.pairwise_cons];refine⟨λ z hz=>?_,C3 ks xs h1.2 λ z hz=>h2 z (by simp[hz])⟩;rcases y3 ks xs z hz with rfl|hz
       . rcases h2 y (by simp) with h|h
         . exact absurd h aN
         . exact h
       . exact h1.1 z hz
theorem mq.push {es:Array MapEntry} {clock:Nat} (h:mq es clock) (k v:Value):mq (es.push ⟨k,v,clock⟩) (clock+1):=by
 obtain⟨h1,h2⟩:=h;refine⟨?_,λ e he=>?_⟩
 . simp only[Array.toList_push,List.map_append,dH,oB];rw[List.nodup_append];refine⟨h1,by simp,λ a ha b hb=>?_⟩;simp at hb;subst hb;obtain⟨e,he,rfl⟩:=List.mem_map.1 ha;exact Nat.ne_of_lt (h2 e he)
 . simp only[Array.toList_push,fT,kn]at he;rcases he with he|rfl
   . have:=h2 e he; omega
   . simp
theorem CE {es:Array MapEntry} {j:Nat} {e:MapEntry} (hj:es.toList[j]?=some e) (f:MapEntry->MapEntry):(es.modify j f).toList=es.toList.set j (f e):=by
 apply List.ext_getElem?;intro i;simp only[Array.toList_modify,List.getElem?_modify,List.getElem?_set]
 by_cases gq:j=i
 . subst gq;have aN:=(dp.1 hj).1;simp only[if_true,hj,if_pos aN]; rfl
 . simp only[if_neg gq];cases es.toList[i]?<;>rfl
theorem mq.modify {es xQ:Array MapEntry} {clock:Nat} (h:mq es clock) {j:Nat} {e e':MapEntry} (hj:es.toList[j]?=some e) (hb:e'.born=e.born) (he:xQ.toList=es.toList.set j e'):mq xQ clock:=by
 have hm:xQ.toList.map (·.born)=es.toList.map (·.born):=by
  rw[he,List.map_set,hb];apply List.ext_getElem?;intro i;rw[List.getElem?_set];split
  . rename_i gq;subst gq;rw[oA,hj];have aN:=(dp.1 hj).1;simp at aN ⊢; exact aN
  . rfl
 refine⟨by rw[hm]; exact h.1,λ x hx=>?_⟩;have:x.born∈xQ.toList.map (·.born):=List.mem_map_of_mem hx;rw[hm]at this;obtain⟨y,hy,hy2⟩:=List.mem_map.1 this;rw[<- hy2]; exact h.2 y hy
theorem wN (h:bw g U w) {t:TypeId} {m k x:AV} {vm vk vx:Value} (hm:aA g m vm) (hk:aA g k vk) (hx:aA g x vx) :
 aC.Fits C g U (sI C.P t m k x U) ((do Instr.mapUpdate t vm vk vx; pure Next.skip:Sem Next).run C.P w):=by
 unfold sI;split
 . rename_i fk e id ht;split
   . rename_i ks vs KD;obtain⟨kt,hu,hkt⟩:=Bg ht;obtain⟨d,hd,Kv⟩:∃ d,C.P.underlying kt=some d/\((fk=.i/\∃ q,d=.int q)\/(fk=.s/\d=.string)):=by
      rcases hkt with ⟨rfl,q,hq⟩|⟨rfl,hq⟩
      . exact⟨_,hq,.inl ⟨rfl,q,rfl⟩⟩
      . exact⟨_,hq,.inr ⟨rfl,rfl⟩⟩
     have Xo:(∃ q,d=.int q)\/d=.string:=Kv.imp (·.2) (·.2);simp only[aA]at hm;obtain⟨r,hr,rfl⟩:=hm;obtain⟨r',es,clock,q1,q2,q3,qb,⟨l,q4,q5,q6,q7⟩,q8⟩:=h.mp id _ KD;rw[hr]at q1; cases q1;have uC:(getObj r).run C.P w=.ok (.map es clock) w:=by simp[getObj,Sem.run,q3]
     have So:=run_checkKey (P:=C.P) (w:=w) (em:=false) hd Xo 9999 vk;have Gj:∀ o,(setObj r o).run C.P w=.ok () { w with heap:=w.heap.setIfInBounds r o }:=λ o=>by simp[setObj,Sem.run,q3]
     split
     . rename_i hf Aa;rcases Dw (P:=C.P) hd Kv hk q4 q5 q6 hf with ⟨_,ha,hn⟩|⟨i,_,_,he,_⟩
       . simp only[Instr.mapUpdate,cF,run_underlying hu,cU,uC,So,Instr.findKey,run_underlying hd,hn,cZ,Gj];obtain⟨l',p1,p2,p3⟩:=KX (e:=⟨vk,vx,clock⟩) hk hx ks vs l q6 q7;refine⟨undef,_,g,.inr ⟨rfl,rfl⟩,Gh.Le.refl g,h.TV KD (kv':=iH k x ks vs) hr q3 ⟨l',?_,?_,p2,p3⟩ (qb.push vk vx),by simp only[aA]; exact⟨[],rfl,by simp[aH]⟩⟩
         . rw[Array.toList_push];exact (p1.trans (q4.cons _)).trans (List.perm_append_singleton _ _).symm
         . exact C3 ks vs q5 λ y hy=>XE (ha y hy)
       . cases he
     . rename_i i hf Aa;rcases Dw (P:=C.P) hd Kv hk q4 q5 q6 hf with ⟨he,_⟩|⟨i',j,e,he,aeH,Kz,Sr,Zv,hn⟩
       . cases he
       . cases he;have EG:=hn 0;rw[db]at EG;have aN:j<es.size:=by
          have:=(dp.1 Sr).1;simpa using this
         have aiC:es[j]?=some e:=by rw[<- mH]; exact Sr
         have Jh:Instr.sameBits 10000 e.key vk=true:=by
          rcases Kv with ⟨rfl,_⟩|⟨rfl,_⟩<;>cases k<;>simp only[rn,bZ]at Aa
          . simp only[aA]at hk Zv; rw[hk,Zv]; simp[Instr.sameBits]
          . simp only[aA]at hk Zv; rw[hk,Zv]; simp[Instr.sameBits,beq_toListBytes]
         have Oa:(Instr.keyThatStays e.key vk).run C.P w=.ok vk w:=by simp[Instr.keyThatStays,Jh]
         have aiM:((es[j]?).map (·.key)).getD vk=e.key:=by rw[aiC]; rfl
         simp only[Instr.mapUpdate,cF,run_underlying hu,cU,uC,So,Instr.findKey,run_underlying hd,EG,cZ,Gj,aiM,Oa];have aeK:=CE Sr (λ e=>{ e with key:=vk,val:=vx })
         refine⟨undef,_,g,.inr ⟨rfl,rfl⟩,Gh.Le.refl g,h.TV KD (kv':=(ks,vs.set i x)) hr q3 ⟨l.set i { e with key:=vk,val:=vx },?_,q5,?_,?_⟩ (qb.modify (e':={ e with key:=vk,val:=vx }) Sr rfl aeK),by simp only[aA]; exact⟨[],rfl,by simp[aH]⟩⟩
         . rw[aeK]; exact X0 q4 Kz Sr _
         . rw[List.map_set];have:=q6.set i hk;have e1:ks.set i k=ks:=by
            apply List.ext_getElem?;intro a;rw[List.getElem?_set];split
            . rename_i ha; subst ha;split
              . exact aeH.symm
              . rename_i hn; exact absurd (dp.1 aeH).1 hn
            . rfl
           rw[e1]at this; exact this
         . rw[List.map_set]; exact q7.set i hx
     . trivial
   . trivial
 . trivial
theorem EW {fk:FK} {k z:AV} {ok:Bool}:∀ (ks vs:List AV) (s:Nat),ks.length=vs.length->oZ fk k z ok ks vs=(match ng fk k ks s with
 | none=>.bad
 | some none=>.val (if ok then .aK [z,.bool false] else z)
 | some (some i)=>.val (if ok then .aK [vs.getD (i-s) z,.bool true] else vs.getD (i-s) z))
 | [],[],s,_=>by simp[oZ,ng]
 | [],_::_,s,h=>by simp at h
 | _::_,[],s,h=>by simp at h
 | y::ks,v::vs,s,h=>by
   simp only[oZ,ng];cases hb:jg fk k y with
   | none=>rfl
   | some b =>
     cases b
     . simp only[bZ,if_false];rw[EW ks vs (s+1) (by simpa using h)];cases hf:ng fk k ks (s+1) with
       | none=>rfl
       | some r =>
         cases r with
         | none=>rfl
         | some i =>
           rcases yS hf with ⟨h1,_⟩|⟨i',h1,_⟩
           . cases h1
           . cases h1;have e1:s+1+i'-(s+1)=i':=by omega
             have e2:s+1+i'-s=i'+1:=by omega
             simp only[e1,e2,List.getD_cons_succ]
     . simp only[if_true,Nat.sub_self,List.getD_cons_zero]
theorem Lf (h:bw g U w) {t:TypeId} {m k:AV} {vm vk:Value} {ok:Bool} (hm:aA g m vm) (hk:aA g k vk) :
 aC.Fits C g U (yj C.P t m k ok U) ((do let r <- Instr.lookup t vm vk ok; pure (Next.value r):Sem Next).run C.P w):=by
 unfold yj;split
 . rename_i fk e ks vs ht he;split
   . rename_i z hz Aa;obtain⟨kt,hu,hkt⟩:=Bg ht;obtain⟨d,hd,Kv⟩:∃ d,C.P.underlying kt=some d/\((fk=.i/\∃ q,d=.int q)\/(fk=.s/\d=.string)):=by
      rcases hkt with ⟨rfl,q,hq⟩|⟨rfl,hq⟩
      . exact⟨_,hq,.inl ⟨rfl,q,rfl⟩⟩
      . exact⟨_,hq,.inr ⟨rfl,rfl⟩⟩
     have Xo:(∃ q,d=.int q)\/d=.string:=Kv.imp (·.2) (·.2);obtain⟨i,vz,hi,vJ,SP⟩:∃ i vz,C.P.info? e=some i/\i.zero=some vz/\Hg vz=z:=by
      unfold zeroV at hz;cases hi:C.P.info? e with
      | none=>simp[hi]at hz
      | some i =>
        cases p8:i.zero with
        | none=>simp[hi,p8]at hz
        | some vz=>simp[hi,p8]at hz; exact⟨i,vz,rfl,p8,hz⟩
     have ZY:aA g z vz:=by rw[<- SP]; exact F7 vz
     obtain⟨es,AU,l,hp,ai1,h1,h2⟩:∃ es:Array MapEntry,((vm=.map none/\es=#[])\/∃ r clock,vm=.map (some r)/\w.heap[r]?=some (Obj.map es clock))/\yK g ks vs es:=by
      cases m<;>simp only[lH,reduceCtorEq,iI,hY]at he
      . obtain⟨rfl,rfl⟩:=he;simp only[aA]at hm; subst hm;exact⟨#[],.inl ⟨rfl,rfl⟩,[],List.Perm.refl _,by simp[qQ],by simp[aH],by simp[aH]⟩
      . simp only[aA]at hm;obtain⟨r,hr,rfl⟩:=hm;obtain⟨r',es,clock,q1,q2,q3,_,q4,_⟩:=h.mp _ _ he;rw[hr]at q1; cases q1;exact⟨es,.inr ⟨r,clock,rfl,q3⟩,q4⟩
      . obtain⟨rfl,rfl⟩:=he;simp only[aA]at hm;obtain⟨r,es,clock,l,rfl,hr,q0,q1,q2,q3⟩:=hm;exact⟨es,.inr ⟨r,clock,rfl,(h.cu r es clock hr).1⟩,l,q0,q1,q2,q3⟩
     have hlen:ks.length=vs.length:=by
      have a:=h1.length;have b:=h2.length;simp at a b; omega
     rw[EW ks vs 0 hlen];cases hf:ng fk k ks 0 with
     | none=>trivial
     | some r =>
       have So:=run_checkKey (P:=C.P) (w:=w) (em:=es.isEmpty) hd Xo 9999 vk;have key:=Dw (P:=C.P) hd Kv hk hp ai1 h1 hf;have fin:∀ q:Option (Nat×Value),Instr.findNow d vk es.toList 0=some q->(Instr.lookup t vm vk ok).run C.P w=(match q with
        | some (_,v)=>.ok (if ok then .tuple #[v,.bool true] else v) w
        | none=>.ok (if ok then .tuple #[vz,.bool false] else vz) w):=λ q hq=>by
        rcases AU with ⟨rfl,rfl⟩|⟨r,clock,rfl,hh⟩
        . simp only[Instr.lookup,cF,run_underlying hu,cU,cZ,So,Instr.findKey,run_underlying hd,hq];cases q with
          | none=>simp only[cZ,cU,cF,iJ hi vJ]
          | some p=>rfl
        . have uC:(getObj r).run C.P w=.ok (Obj.map es clock) w:=by simp[getObj,Sem.run,hh]
          simp only[Instr.lookup,cF,run_underlying hu,cU,cZ,uC,So,Instr.findKey,run_underlying hd,hq];cases q with
          | none=>simp only[cZ,cU,cF,iJ hi vJ]
          | some p=>rfl
       rcases key with ⟨rfl,_,hn⟩|⟨i,j,e,rfl,_,Kz,_,_,hn⟩
       . simp only[cF,fin _ (hn 0),cU,cZ];refine bj h ?_;cases ok
         . exact ZY
         . simp only[if_true,aA];exact⟨[vz,.bool false],rfl,by simp only[aH]; exact⟨_,_,rfl,ZY,_,_,rfl,by simp only[aA],rfl⟩⟩
       . simp only[cF,fin _ (hn 0),cU,cZ,Nat.sub_zero];have hv:aA g (vs.getD i z) e.val:=by
          have aN:i<vs.length:=by
           have a:=(dp.1 Kz).1;have b:=h2.length;simp at b; omega
          obtain⟨v,hv,SK⟩:=h2.get (i:=i) (x:=vs[i]) (qM aN);rw[oA,Kz]at hv;simp at hv;subst hv;have:vs.getD i z=vs[i]:=by simp[oC,aN]
          rw[this]; exact SK
         refine bj h ?_;cases ok
         . exact hv
         . simp only[if_true,aA];exact⟨[e.val,.bool true],rfl,by simp only[aH]; exact⟨_,_,rfl,hv,_,_,rfl,by simp only[aA],rfl⟩⟩
   . trivial
 . trivial
theorem QA (h:bw g U w):aC.Fits C g U .wP (.ok (.value (.map (some w.heap.size))) (w.alloc (.map #[] 0))):=by
 obtain⟨b,g',h1,h2,h3,h4⟩:=h.vN (.map #[] 0) 0 0 (.mp [] []) λ g' hle hi hm=>⟨#[],0,heap_alloc_new w _,⟨by simp,by simp⟩,⟨[],List.Perm.refl _,by simp[qQ],by simp[aH],by simp[aH]⟩,hm⟩;exact⟨_,_,g',b,rfl,h1,h2,h4,by simp only[NV.at,aA]; exact⟨_,Gh.re.2 ⟨_,h3,rfl⟩,rfl⟩⟩
end
end Go.Rip
namespace Go.Rip
open Go.RowKit
def bN (c a b:AV):aC :=
 match c with
 | .bool t=>.val (if t=true then a else b)
 | _=>.bad
def Ca (P:Program) (s f:Nat):Option (Nat×Bool×Nat) :=
 match P.underlying s with
 | some (.struct fields)=>match fields[f]? with
   | some x=>match pJ P x.type with
     | some (b,n)=>some (x.offset,b,n)
     | none=>none
   | none=>none
 | _=>none
def AK (P:Program) (s:TypeId) (x:AV) (f:Nat):aC :=
 match Ca P s f,x with
 | some (o,true,n),.agg l=>.cond (o+n<=l.length) (.val (.agg ((l.drop o).take n)))
 | some (o,false,_),.agg l=>jH (l.drop o)
 | _,_=>.bad
def jz (P:Program) (f:AV) (args:List AV):aC :=
 match f with
 | .func (.func g) first cap=>if fC P g=true then .enter g (first++args++cap) else .bad
 | .te o=>.yield o args
 | _=>.bad
def LK (P:Program) (t:TypeId) (m:AV):aC :=
 match sH P t,m with
 | some _,.gJ ks vs=>.new .it none (.iter (ks.zip vs) none)
 | _,_=>.bad
def u4:List (AV×AV)->List ((AV×AV)×List (AV×AV))
 | []=>[]
 | x::xs=>(x,xs)::(u4 xs).map λ p=>(p.1,x::p.2)
def tY (i:AV) (U:St):aC :=
 match i with
 | .it o=>match U.iter o with
   | some ([],_)=>.val (.aK [.bool false])
   | some (x::xs,_)=>.nf o ((u4 (x::xs)).map λ p=>(.aK [.bool true,p.1.1,p.1.2],.iter p.2 (some p.1)))
   | none=>.bad
 | _=>.bad
def oe (i:AV) (U:St):aC :=
 match i with
 | .it o=>match U.iter o with
   | some (_,some kv)=>.val (.aK [kv.1,kv.2])
   | _=>.bad
 | _=>.bad
def B0 (P:Program) (t:TypeId):Option AV :=
 match P.underlying t with
 | some (.interface _)=>none
 | some _=>zeroV P t
 | none=>none
def xE (P:Program) (x:AV) (t:TypeId) (ok:Bool):aC :=
 match B0 P t,x with
 | some z,.iface u v=>if u=t then .val (if ok then .aK [v,.bool true] else v) else if ok then .val (.aK [z,.bool false]) else .bad
 | some z,.dE=>if ok then .val (.aK [z,.bool false]) else .bad
 | _,_=>.bad
def u3 (P:Program) (t:TypeId) (mu:Bool) (l c:AV):aC :=
 match gh P t,l,c with
 | some (e,sz),.int _ l,.int _ c=>match rA P e with
   | some z=>.cond (0<=l/\l=c/\c<=65536) (if mu then .qx l.toNat sz e none (bT l.toNat z) else .pv l.toNat (bT l.toNat z) none ⟨l.toNat,e,sz⟩)
   | none=>.bad
 | _,_,_=>.bad
def AD (P:Program) (t:TypeId) (x:AV) (U:St):aC :=
 match gh P t,x with
 | some (e,sz),.ms b off n j9 _=>match U.box b,rA P e with
   | some l,some z=>.cond (j9=sz/\off+n*sz<=l.length) (.jG (.aK []) b (.box (ay l off (bT n z))))
   | _,_=>.bad
 | _,_=>.bad
def Ev (P:Program) (t u:TypeId):Option (TypeId×Nat×List AV) :=
 match P.underlying u with
 | some (.int _)=>match gh P t with
   | some (e,sz)=>match rA P e with
     | some z=>some (e,sz,z)
     | none=>none
   | none=>none
 | _=>none
def Jc (q:TypeId×Nat×List AV) (mu:Bool) (s y:AV):aC :=
 match s,y with
 | .ag,.int _ n=>.cond (0<n/\n<=65536) (if mu then .qx n.toNat q.2.1 q.1 none (bT n.toNat q.2.2) else .pv n.toNat (bT n.toNat q.2.2) none ⟨n.toNat,q.1,q.2.1⟩)
 | _,_=>.bad
def JU (st:Option (TypeId×Nat)) (x:AV):aC:=match st,x with
 | some _,.ag=>.val (.int .i64 0)
 | _,_=>.bad
def BY (P:Program) (t u:TypeId) (mu:Bool) (s y:AV) (U:St):aC :=
 match Ev P t u with
 | some q=>Jc q mu s y
 | none=>F1 P t u mu s y U
def B6 (C:de) (mu:Bool) (c:Call) (ρ:Env) (U:St):aC :=
 match c.callee,c.argTypes.toList,c.args.toList with
 | .value f,_,args=>jz C.P (ρ.ev C f) (args.map (ρ.ev C))
 | .builtin .len,[t],[x]=>K9 C.P t (ρ.ev C x) U
 | .builtin .append,[t,u],[s,y]=>BY C.P t u mu (ρ.ev C s) (ρ.ev C y) U
 | .builtin .cap,[t],[x]=>JU (gh C.P t) (ρ.ev C x)
 | .builtin .min,_,[x,y]=>Bh (ρ.ev C x) (ρ.ev C y)
 | .builtin .max,_,[x,y]=>DH (ρ.ev C x) (ρ.ev C y)
 | .builtin .clear,[t],[x]=>AD C.P t (ρ.ev C x) U
 | _,_,_=>.bad
def kY (C:de) (mu:Bool) (o:Op) (ρ:Env) (U:St):aC :=
 match o with
 | .move x|.assign x=>.val (ρ.ev C x)
 | .pick c a b=>bN (ρ.ev C c) (ρ.ev C a) (ρ.ev C b)
 | .alloc t=>JE C.P t
 | .box _ x=>fL (ρ.ev C x)
 | .build t parts=>JR C.P t (og C ρ parts)
 | .buildSlice t n parts=>tT C.P t n mu (og C ρ parts)
 | .insert t m k v|.mapUpdate t m k v=>sI C.P t (ρ.ev C m) (ρ.ev C k) (ρ.ev C v) U
 | .load t a=>wJ C.P t (ρ.ev C a) U
 | .store t a v=>Md C.P t (ρ.ev C a) (ρ.ev C v) U
 | .nilCheck x=>aZ (ρ.ev C x)
 | .binOp op t x y _=>JN C.P op t (isLit x||isLit y) (ρ.ev C x) (ρ.ev C y)
 | .unOp op _ x=>lj op (ρ.ev C x)
 | .convert s d x=>Jb C.P s d (ρ.ev C x)
 | .makeInterface t x=>zi C.P t (ρ.ev C x)
 | .makeFunc fn first cap=>.val (.func fn (first.toList.map (ρ.ev C)) (cap.toList.map (ρ.ev C)))
 | .makeMap _ none=>.wP
 | .slice t x lo hi none=>LZ C.P t (ρ.ev C x) (lo.map (ρ.ev C)) (hi.map (ρ.ev C))
 | .fieldAddr s x f=>yR C.P s (ρ.ev C x) f
 | .field s x f=>AK C.P s (ρ.ev C x) f
 | .indexAddr t x i=>y2 C.P t (ρ.ev C x) (ρ.ev C i)
 | .index t x i=>EM C.P t (ρ.ev C x) (ρ.ev C i)
 | .lookup t m k ok=>yj C.P t (ρ.ev C m) (ρ.ev C k) ok U
 | .extract t i=>aU (ρ.ev C t) i
 | .panic x=>vP (ρ.ev C x)
 | .range t m=>LK C.P t (ρ.ev C m)
 | .typeAssert x _ t ok=>xE C.P (ρ.ev C x) t ok
 | .makeSlice t l c=>u3 C.P t mu (ρ.ev C l) (ρ.ev C c)
 | .next i false=>tY (ρ.ev C i) U
 | .entry i=>oe (ρ.ev C i) U
 | .call c=>B6 C mu c ρ U
 | _=>.bad
section
variable {C:de} {g:Gh} {U:St} {w:World}
theorem Ga (h:bw g U w) {s f:Nat} {x:AV} {v:Value} (hx:aA g x v):aC.Fits C g U (AK C.P s x f) ((do let r <- Instr.field s v f; pure (Next.value r):Sem Next).run C.P w):=by
 unfold AK;have key:∀ {o b n},Ca C.P s f=some (o,b,n)->∃ fs y i d,C.P.underlying s=some (.struct fs)/\fs[f]?=some y/\y.offset=o/\C.P.info? y.type=some i/\C.P.underlying y.type=some d/\F0 d=b/\i.size=n:=λ {o b n} hf=>by
  unfold Ca at hf;split at hf
  . rename_i fs hu;split at hf
    . rename_i y hy;split at hf
      . rename_i b' n' hv;simp only[iI,hY]at hf;obtain⟨rfl,rfl,rfl⟩:=hf;obtain⟨i,d,h1,h2,h3,h4⟩:=qp hv;exact⟨fs,y,i,d,hu,hy,rfl,h1,h2,h3,h4⟩
      . cases hf
    . cases hf
  . cases hf
 split
 . rename_i o n l hf;obtain⟨fs,y,i,d,hu,hy,rfl,hi,hd,ha,rfl⟩:=key hf;intro hle;simp only[aA]at hx;obtain⟨vs,rfl,h1,hr⟩:=hx;simp only[Instr.field,cF,run_underlying hu,cU,hy,asAgg,cZ,part,nv hd,ha,if_true,fX,fF hi];refine bj h ?_;simp only[aA];refine⟨(vs.drop y.offset).take i.size,?_,λ u hu=>h1 u (List.mem_of_mem_drop (List.mem_of_mem_take hu)),(hr.drop _).take _⟩;congr 1;apply Array.ext';simp[List.extract_eq_take_drop]
 . rename_i o n l hf;obtain⟨fs,y,i,d,hu,hy,rfl,hi,hd,ha,rfl⟩:=key hf;simp only[aA]at hx;obtain⟨vs,rfl,h1,hr⟩:=hx;cases hl:l.drop y.offset with
   | nil=>trivial
   | cons z zs =>
     have hz:l[y.offset]?=some z:=by
      have:=congrArg (λ l=>l[0]?) hl;simpa using this
     obtain⟨u,pR,hzu⟩:=hr.get hz;have e:vs.toArray[y.offset]?=some u:=by simpa using pR
     simp only[Instr.field,cF,run_underlying hu,cU,hy,asAgg,cZ,part,nv hd,ha,bZ,if_false,fX,e];exact bj h hzu
 . trivial
theorem B9 (hG:jx C g) {ρ:Env} {a:Act} (hr:iQ g ρ a.tmps):∀ l:List Operand,aH g (l.map (ρ.ev C)) (l.map a.eval)
 | []=>by simp[aH]
 | x::l=>by simp only[dH,aH]; exact⟨_,_,rfl,vB hG hr x,B9 hG hr l⟩
theorem W7 (h:bw g U w) {f:AV} {vf:Value} {args:List AV} {vs:List Value} (hf:aA g f vf) (ha:aH g args vs) :
 aC.Fits C g U (jz C.P f args) ((do let d <- Deferred.ofValue vf vs.toArray; invoke d.target d.args:Sem Next).run C.P w):=by
 unfold jz;split
 . rename_i q first cap
   split
   . rename_i he;simp only[aA]at hf;obtain⟨fs,cs,rfl,h1,h2⟩:=hf;unfold fC at he;split at he
     . rename_i fn hfn;simp only[cb,Bool.not_eq_true']at he;have hb:fn.body.isNone=false:=by cases hb:fn.body<;>simp_all
       simp only[Deferred.ofValue,invoke,callFunc,cF,cZ,cU,run_program,hfn,he.2,hb,bZ,if_false,fX];exact⟨fs++vs++cs,w,by simp,h,(h1.append ha).append h2⟩
     . cases he
   . trivial
 . rename_i o;simp only[aA]at hf;obtain⟨x,hx,rfl⟩:=hf;simp only[Deferred.ofValue,invoke,cF,cZ,cU];exact⟨vs,x,w,w,hx,by simp,rfl,h,ha⟩
 . trivial
theorem D7 (h:bw g U w) {x:AV} {v:Value} {xt t:TypeId} {ok:Bool} (hx:aA g x v) :
 aC.Fits C g U (xE C.P x t ok) ((do let r <- Instr.typeAssert v xt t ok; pure (Next.value r):Sem Next).run C.P w):=by
 have key:∀ {z:AV},B0 C.P t=some z->∃ d i vz,C.P.underlying t=some d/\(∀ ms,d≠.interface ms)/\C.P.info? t=some i/\i.zero=some vz/\aA g z vz:=λ {z} hz=>by
  unfold B0 at hz;split at hz
  . cases hz
  . rename_i d hn hd;unfold zeroV at hz;cases hi:C.P.info? t with
    | none=>simp[hi]at hz
    | some i =>
      cases p8:i.zero with
      | none=>simp[hi,p8]at hz
      | some vz=>simp[hi,p8]at hz; exact⟨d,i,vz,hd,λ ms e=>hn ms e,rfl,p8,by rw[<- hz]; exact F7 vz⟩
  . cases hz
 unfold xE;split
 . rename_i z u y hz;obtain⟨d,i,vz,hd,hn,hi,p8,SP⟩:=key hz;simp only[aA]at hx;obtain⟨q,rfl,hq⟩:=hx;have je:(Instr.typeAssert (.iface u q) xt t ok).run C.P w=(if u=t then .ok (if ok then .tuple #[q,.bool true] else q) w else if ok then .ok (.tuple #[vz,.bool false]) w else (Instr.typeAssert (.iface u q) xt t ok).run C.P w):=by
    by_cases hu:u=t
    . rw[if_pos hu];cases d<;>first
       | exact absurd rfl (hn _)
       | (cases ok<;>simp[Instr.typeAssert,run_underlying hd,hu])
    . rw[if_neg hu];cases ok
      . rfl
      . cases d<;>first
         | exact absurd rfl (hn _)
         | simp[Instr.typeAssert,run_underlying hd,hu,iJ hi p8]
   split
   . rename_i hu;rw[cF,je,if_pos hu];refine bj h ?_;cases ok
     . exact hq
     . simp only[if_true,aA,aH]; exact⟨_,rfl,_,_,rfl,hq,_,_,rfl,rfl,rfl⟩
   . rename_i hu;split
     . rename_i cS;rw[cF,je,if_neg hu,if_pos cS];exact bj h (by simp only[aA,aH]; exact⟨_,rfl,_,_,rfl,SP,_,_,rfl,rfl,rfl⟩)
     . trivial
 . rename_i z hz;obtain⟨d,i,vz,hd,hn,hi,p8,SP⟩:=key hz;simp only[aA]at hx;subst hx;split
   . rename_i cS;subst cS;have je:(Instr.typeAssert .nilIface xt t true).run C.P w=.ok (.tuple #[vz,.bool false]) w:=by
      cases d<;>first
       | exact absurd rfl (hn _)
       | simp[Instr.typeAssert,run_underlying hd,iJ hi p8]
     rw[cF,je];exact bj h (by simp only[aA,aH]; exact⟨_,rfl,_,_,rfl,SP,_,_,rfl,rfl,rfl⟩)
   . trivial
 . trivial
theorem EZ (h:bw g U w) {t:TypeId} {mu:Bool} {l c:AV} {vl vc:Value} (hl:aA g l vl) (hc:aA g c vc) :
 aC.Fits C g U (u3 C.P t mu l c) ((do let x <- Instr.makeSlice t vl vc; pure (Next.value x):Sem Next).run C.P w):=by
 unfold u3;split
 . rename_i e sz kl l kc c hs;split
   . rename_i z hz;rintro⟨h0,rfl,h1⟩;obtain⟨i,zv,hu,hi,p8,yc,fH,mD,hb,_⟩:=jO hs;obtain⟨i',zv',mC,HC,hm⟩:=pj hz;rw[hi]at mC; cases mC;rw[p8]at HC; cases HC;obtain⟨h2,h3⟩:=fE (g:=g) hm;simp only[aA]at hl hc;subst hl hc;have aet:(i.bytes:Int)*l<=281474976710656:=by
      have e1:(i.bytes:Int)*l<=32768*l:=Int.mul_le_mul_of_nonneg_right (by omega) h0;omega
     have je:=run_make (P:=C.P) w t e i zv hu hi p8 kl kc l l h0 (Int.le_refl _) aet (by omega);have A0:=vd (g:=g) h2 l.toNat;have hmc:madeCells zv.cells (l.toNat*i.size)=(Array.range (l.toNat*zv.cells.size)).map (zv.cells[·%zv.cells.size]!):=by rw[fH,<- yc]; rfl
     have DA:∀ u∈(madeCells zv.cells (l.toNat*i.size)).toList,u.oneCell'=true:=λ u hu=>by
      rw[hmc]at hu;simp only[Array.toList_map,List.mem_map]at hu;obtain⟨j,_,rfl⟩:=hu;have aN:j%zv.cells.size<zv.cells.size:=Nat.mod_lt _ (by omega);rw[getElem!_pos zv.cells _ aN];exact h3 _ (by simp)
     rw[<- hmc]at A0;have hlen:(madeCells zv.cells (l.toNat*i.size)).toList.length=l.toNat*sz:=by rw[hmc]; simp[yc]
     have KS:z.length=sz:=by have:=h2.length; simp at this; omega
     simp only[cF,je,cU,cZ];cases mu
     . have:=qT (C:=C) (del:=none) (e:=e) (sz:=sz) (n:=l.toNat) (c:=l.toNat) h (vs:=(madeCells zv.cells (l.toNat*i.size)).toList) (rest:=[]) A0 DA (by simp) (by rw[mX,KS]) (by simpa using hlen) (bX _) (by unfold maxLen; omega);simpa using this
     . have:=sv (C:=C) (del:=none) (e:=e) (sz:=sz) (n:=l.toNat) (c:=l.toNat) h (vs:=(madeCells zv.cells (l.toNat*i.size)).toList) (rest:=[]) A0 DA (by simp) (by simpa using hlen) (bX _) (by unfold maxLen; omega);simpa using this
   . trivial
 . trivial
theorem MJ (h:bw g U w) {t ty:TypeId} {x:AV} {v:Value} (hx:aA g x v) :
 aC.Fits C g U (AD C.P t x U) ((do let r <- Builtin.clear_ #[t] ty #[v]; pure (Next.value r):Sem Next).run C.P w):=by
 unfold AD;split
 . rename_i e sz b off n j9 e' hs;split
   . rename_i l z hb hz;rintro⟨rfl,h1⟩;obtain⟨i,zv,hu,hi,p8,yc,fH,mD,_⟩:=jO hs;obtain⟨i',zv',mC,HC,hm⟩:=pj hz;rw[hi]at mC; cases mC;rw[p8]at HC; cases HC;obtain⟨h2,h3⟩:=fE (g:=g) hm;simp only[aA]at hx;obtain⟨y,c,hy,rfl,_⟩:=hx;have KS:z.length=j9:=by have:=h2.length; simp at this; omega
     have A0:=vd (g:=g) h2 n;have hzc:Builtin.zeroCells zv.cells n=(Array.range (n*zv.cells.size)).map (zv.cells[·%zv.cells.size]!):=rfl;obtain⟨w',gr,fp⟩:=yr (C:=C) (off:=off) h hb hy A0 (nY h3 n (by omega)) (by rw[mX,KS]; exact h1);rw[<- hzc]at gr
     by_cases hn:n=0
     . subst hn;have e0:U.cx b (ay l off (bT 0 z))=U.cx b l:=by simp[ay,bT]
       simp only[Builtin.clear_,cF,cZ,cU];simp[run_underlying hu];refine⟨_,w,g,.inl rfl,Gh.Le.refl g,?_,by simp only[aA]; exact⟨[],rfl,by simp[aH]⟩⟩;show bw g (U.cx b (ay l off (bT 0 z))) w;rw[e0]; exact h.ahu hb
     . have hz2:=iJ (P:=C.P) hi p8 w;have aev:(Builtin.clear_ #[t] ty #[.slice (some ⟨y.aL,off,none⟩) n c]).run C.P w=.ok (.tuple #[]) w':=by
        simp[Builtin.clear_,run_underlying hu,hz2,gr,hn]
       simp only[cF,aev,cU,cZ];exact⟨_,w',g,.inl rfl,Gh.Le.refl g,fp,by simp only[aA]; exact⟨[],rfl,by simp[aH]⟩⟩
   . trivial
 . trivial
theorem Dj:∀ {ks vs:List AV},ks.length=vs.length->(ks.zip vs).map (·.1)=ks
 | [],[],_=>rfl
 | [],_::_,h=>by simp at h
 | _::_,[],h=>by simp at h
 | k::ks,v::vs,h=>by simp only[List.zip_cons_cons,dH]; rw[Dj (by simpa using h)]
theorem Dk:∀ {ks vs:List AV},ks.length=vs.length->(ks.zip vs).map (·.2)=vs
 | [],[],_=>rfl
 | [],_::_,h=>by simp at h
 | _::_,[],h=>by simp at h
 | k::ks,v::vs,h=>by simp only[List.zip_cons_cons,dH]; rw[Dk (by simpa using h)]
theorem Ng (h:bw g U w) {t:TypeId} {m:AV} {v:Value} (hm:aA g m v):aC.Fits C g U (LK C.P t m) ((do let x <- Instr.range t v; pure (Next.value x):Sem Next).run C.P w):=by
 unfold LK;split
 . rename_i p ks vs ht;obtain⟨fk,e⟩:=p;obtain⟨kt,hu,_⟩:=Bg ht;simp only[aA]at hm;obtain⟨r,es,clock,l,rfl,hr,hp,hs,h1,h2⟩:=hm;obtain⟨q1,q2⟩:=h.cu r es clock hr;have hlen:ks.length=vs.length:=by
    have a:=h1.length;have b:=h2.length;simp at a b; omega
   have uC:(getObj r).run C.P w=.ok (.map es clock) w:=by simp[getObj,Sem.run,q1]
   obtain⟨b,g',f1,f2,f3,f4⟩:=h.vN (.mapIter (some r) clock #[] clock) 0 0 (.iter (ks.zip vs) none) λ g' hle hi SB =>
    ⟨r,es,clock,#[],heap_alloc_new w _,hle.cu _ _ hr,⟨l,by
      have:(es.toList.filter λ e=>!(#[]:Array Nat).contains e.born)=es.toList:=by simp
      rw[this]; exact hp,by rw[Dj hlen]; exact h1.mono hle,by rw[Dk hlen]; exact h2.mono hle⟩,trivial⟩
   simp only[Instr.range,cF,run_underlying hu,cU,uC,cZ,run_newObj];exact⟨_,_,g',b,rfl,f1,f2,f4,by simp only[NV.at,aA]; exact⟨_,f3,rfl⟩⟩
 . trivial
theorem Io:∀ {l:List (AV×AV)} {i:Nat} {x:AV×AV},l[i]?=some x->(x,l.eraseIdx i)∈u4 l
 | [],i,x,h=>by simp at h
 | y::l,0,x,h=>by simp at h; subst h; simp[u4]
 | y::l,i+1,x,h=>by
   simp only[List.getElem?_cons_succ]at h;simp only[u4,List.eraseIdx_cons_succ,cK,List.mem_map];exact .inr ⟨_,Io h,rfl⟩
theorem aH.eraseIdx:∀ {l:List AV} {vs:List Value} (i:Nat),aH g l vs->aH g (l.eraseIdx i) (vs.eraseIdx i)
 | [],_,_,h=>by simp only[aH]at h; subst h; simp[aH]
 | y::ys,_,0,h=>by
   simp only[aH]at h;obtain⟨v,vs,rfl,h1,h2⟩:=h;simpa using h2
 | y::ys,_,i+1,h=>by
   simp only[aH]at h;obtain⟨v,vs,rfl,h1,h2⟩:=h;simp only[List.eraseIdx_cons_succ,aH];exact⟨v,_,rfl,h1,aH.eraseIdx i h2⟩
theorem pt {α β:Type} (f:α->β):∀ (l:List α) (i:Nat),(l.eraseIdx i).map f=(l.map f).eraseIdx i
 | [],i=>by simp
 | x::l,0=>by simp
 | x::l,i+1=>by simp[pt f l i]
theorem IY {α:Type} {l m:List α} (h:l.Perm m) {i j:Nat} {e:α} (hi:l[i]?=some e) (hj:m[j]?=some e):(l.eraseIdx i).Perm (m.eraseIdx j):=by
 obtain⟨h1,h2⟩:=dp.1 hi;obtain⟨h3,h4⟩:=dp.1 hj;have el:l=l.take i++e::l.drop (i+1):=by
  conv=>lhs; rw[<- List.take_append_drop i l,gM h1,h2]
 have em:m=m.take j++e::m.drop (j+1):=by
  conv=>lhs; rw[<- List.take_append_drop j m,gM h3,h4]
 have hp:(l.take i++e::l.drop (i+1)).Perm (m.take j++e::m.drop (j+1)):=by rw[<- el,<- em]; exact h
 have h5:=(List.perm_middle.symm.trans hp).trans List.perm_middle;rw[List.eraseIdx_eq_take_drop_succ,List.eraseIdx_eq_take_drop_succ];exact List.Perm.cons_inv h5
theorem MR {es:List MapEntry} (hn:(es.map (·.born)).Nodup) {seen:Array Nat} {e:MapEntry} {j:Nat} (hj:(es.filter λ x=>!seen.contains x.born)[j]?=some e) :
 (es.filter λ x=>!(seen.push e.born).contains x.born)=(es.filter λ x=>!seen.contains x.born).eraseIdx j:=by
 have e1:(es.filter λ x=>!(seen.push e.born).contains x.born)=(es.filter λ x=>!seen.contains x.born).filter λ x=>x.born != e.born:=by
  rw[List.filter_filter];apply List.filter_congr;intro x _;simp only[Array.contains_push,Bool.not_or];rw[Bool.and_comm];congr 1
 rw[e1];have EH:((es.filter λ x=>!seen.contains x.born).map (·.born)).Nodup:=List.Nodup.sublist (List.Sublist.map _ List.filter_sublist) hn;generalize (es.filter λ x=>!seen.contains x.born)=l at hj EH;clear e1 hn es
 induction l generalizing j with
 | nil=>simp at hj
 | cons y l ih =>
   simp only[dH,List.nodup_cons]at EH;cases j with
   | zero =>
     simp at hj; subst hj;simp only[List.filter_cons,bne_self_eq_false,bZ,if_false,List.eraseIdx_zero,List.tail_cons];rw[List.filter_eq_self];intro x hx;simp only[bne_iff_ne,ne_eq];intro he;exact EH.1 (he▸List.mem_map_of_mem hx)
   | succ j =>
     simp only[List.getElem?_cons_succ]at hj;have ca:y.born≠e.born:=λ he=>EH.1 (he▸List.mem_map_of_mem (gw hj));simp only[List.filter_cons,bne_iff_ne,ne_eq,ca,not_false_eq_true,if_true,List.eraseIdx_cons_succ];rw[ih hj EH.2]
theorem QB (h:bw g U w) {i:AV} {v:Value} {ty:TypeId} (hi:aA g i v):aC.Fits C g U (tY i U) ((do let x <- Instr.next v false ty; pure (Next.value x):Sem Next).run C.P w):=by
 unfold tY;split
 . rename_i o;simp only[aA]at hi;obtain⟨p,hp,rfl⟩:=hi;split
   . rename_i cur hit;obtain⟨p',k1,k2,m,es,clock,seen,k3,k4,⟨l,k5,k6,k7⟩,k8⟩:=h.live o _ (St.y7.1 hit);rw[hp]at k1; cases k1;obtain⟨q1,q2⟩:=h.cu m es clock k4;simp only[oB,aH,List.map_eq_nil_iff]at k6;subst k6;have Gi:=k5.symm.eq_nil;have Sv:(getObj p.aL).run C.P w=.ok (.mapIter (some m) clock seen clock) w:=by simp[getObj,Sem.run,k3]
     have Sw:(getObj m).run C.P w=.ok (.map es clock) w:=by simp[getObj,Sem.run,q1]
     have PU:(!seen.isEmpty&&!es.isEmpty&&es.all (λ e=>decide (e.born>=clock)))=false:=by
      cases he:es.isEmpty
      . have:es.all (λ e=>decide (e.born>=clock))=false:=by
         rw[Array.all_eq_false];have h0:0<es.size:=by
          rcases Nat.eq_zero_or_pos es.size with h0|h0
          . simp[Array.isEmpty,h0]at he
          . exact h0
         refine⟨0,h0,?_⟩;have:=q2.2 es[0] (by simp);simp; omega
        simp[this]
      . simp
     have ahb:(es.filter λ e=>!seen.contains e.born)=#[]:=by
      apply Array.ext';simpa using Gi
     simp only[Instr.next,cF,Sv,cU,Sw,PU,fX,bZ,if_false,cZ,ahb]
     have e2:(#[]:Array MapEntry).filter (λ e=>decide (e.born<clock))=#[]:=by simp
     have e3:(#[]:Array MapEntry).filter (λ e=>decide (e.born>=clock))=#[]:=by simp
     simp[choose,Sem.run,Question.forced,Result.andThen];exact bj h (by simp only[aA,aH]; exact⟨[.bool false],rfl,_,_,rfl,rfl,rfl⟩)
   . rename_i x xs cur hit;obtain⟨p',k1,k2,m,es,clock,seen,k3,k4,⟨l,k5,k6,k7⟩,k8⟩:=h.live o _ (St.y7.1 hit);rw[hp]at k1; cases k1;obtain⟨q1,q2⟩:=h.cu m es clock k4;have Sv:(getObj p.aL).run C.P w=.ok (.mapIter (some m) clock seen clock) w:=by simp[getObj,Sem.run,k3]
     have PU:(!seen.isEmpty&&!es.isEmpty&&es.all (λ e=>decide (e.born>=clock)))=false:=by
      cases he:es.isEmpty
      . have:es.all (λ e=>decide (e.born>=clock))=false:=by
         rw[Array.all_eq_false];have h0:0<es.size:=by
          rcases Nat.eq_zero_or_pos es.size with h0|h0
          . simp[Array.isEmpty,h0]at he
          . exact h0
         refine⟨0,h0,?_⟩;have:=q2.2 es[0] (by simp);simp; omega
        simp[this]
      . simp
     generalize hL:(es.filter λ e=>!seen.contains e.born)=L;have NR:(es.toList.filter λ e=>!seen.contains e.born)=L.toList:=by rw[<- hL]; simp
     rw[NR]at k5;have oX:∀ e∈L.toList,e∈es.toList:=λ e he=>by rw[<- NR]at he; exact (List.mem_filter.1 he).1
     have hlen:l.length=xs.length+1:=by have:=k6.length; simpa using this
     have Kj:L.size=xs.length+1:=by rw[<- hlen,k5.length_eq]; simp
     have hold:L.filter (λ e=>decide (e.born<clock))=L:=by
      apply Array.ext';rw[Array.toList_filter,List.filter_eq_self];intro e he;have:=q2.2 e (oX e he);simpa using this
     have rE:L.filter (λ e=>decide (e.born>=clock))=#[]:=by
      apply Array.ext';rw[Array.toList_filter];apply List.filter_eq_nil_iff.2;intro e he;have:=q2.2 e (oX e he);simp; omega
     have hem:L.isEmpty=false:=by simp[Array.isEmpty,Kj]
     have key:∀ (w1:World) (c:Nat),w1.heap=w.heap->w1.os=w.os->w1.tape=w.tape->w1.output=w.output->c<L.size ->
      ∀ e,L[c]?=some e->∃ u w' g' v x',(setObj p.aL (.mapIter (some m) clock (seen.push e.born) clock)).run C.P w1=.ok () w'/\u=Value.tuple #[.bool true,e.key,e.val] /\
       (v,x')∈(u4 (x::xs)).map (λ p=>(AV.aK [.bool true,p.1.1,p.1.2],Live.iter p.2 (some p.1)))/\Gh.Le g g'/\bw g' (U.set o x') w'/\aA g' v u:=λ w1 c e1 e2 e3 e4 hc e he=>by
      have mB:L.toList[c]?=some e:=by rw[mH]; exact he
      obtain⟨a,ha⟩:=List.getElem?_of_mem (k5.mem_iff.2 (gw mB));have Kl:a<(x::xs).length:=by
       have:=(dp.1 ha).1;rw[hlen]at this; simpa using this
      have Od:(x::xs)[a]?=some ((x::xs)[a]):=qM Kl;generalize (x::xs)[a]=kv at Od;obtain⟨vk,dU,rX⟩:=k6.get (i:=a) (x:=kv.1) (by rw[oA,Od]; rfl);obtain⟨vv,hvv,gD⟩:=k7.get (i:=a) (x:=kv.2) (by rw[oA,Od]; rfl);rw[oA,ha]at dU hvv;simp at dU hvv;subst dU hvv;have Gj:(setObj p.aL (.mapIter (some m) clock (seen.push e.born) clock)).run C.P w1=.ok () { w1 with heap:=w1.heap.setIfInBounds p.aL (.mapIter (some m) clock (seen.push e.born) clock) }:=by
       simp[setObj,Sem.run,e1,k3]
      have aN:=(mG.1 k3).1;refine⟨_,_,g,_,_,Gj,rfl,List.mem_map.2 ⟨_,Io Od,rfl⟩,Gh.Le.refl g,?_,?_⟩
      . refine h.rewrite (St.y7.1 hit) hp ⟨e2,e3,e4,by simp[e1]⟩ (λ k hk _=>by simp only[e1]; exact Array.getElem?_setIfInBounds_ne (Ne.symm hk)) (λ o=>?_) ?_ ?_
        . cases ei:g.cJ p.aL o with
          | none=>rfl
          | some u=>have:=(h.cJ _ _ _ ei).1; simp[World.cell?,k3]at this
        . cases ei:g.cu p.aL with
          | none=>rfl
          | some u=>have:=(h.cu _ _ _ ei).1; rw[k3]at this; cases this
        . refine⟨m,es,clock,seen.push e.born,by simp[e1,aN],k4,⟨l.eraseIdx a,?_,?_,?_⟩,e,?_,by simp,rX,gD⟩
          . have x5:(es.toList.filter λ e=>!seen.contains e.born)[c]?=some e:=by rw[NR]; exact mB
            rw[MR q2.1 x5,NR];exact IY k5 ha mB
          . rw[pt,pt]; exact k6.eraseIdx a
          . rw[pt,pt]; exact k7.eraseIdx a
          . exact oX e (gw mB)
      . simp only[aA,aH];exact⟨_,rfl,_,_,rfl,rfl,_,_,rfl,rX,_,_,rfl,gD,rfl⟩
     have KE:∀ (n:Nat) (w1:World),(choose (.mapNext L.size)).run C.P w=.ok n w1->w1.heap=w.heap->w1.os=w.os->w1.tape=w.tape->w1.output=w.output->n<L.size ->
      aC.Fits C g U (.nf o ((u4 (x::xs)).map λ p=>(.aK [.bool true,p.1.1,p.1.2],.iter p.2 (some p.1)))) ((do let x <- Instr.next (.pointer (some ⟨p.aL,0,none⟩)) false ty; pure (Next.value x):Sem Next).run C.P w):=λ n w1 hch e1 e2 e3 e4 hn=>by
      have Sw:(getObj m).run C.P w=.ok (.map es clock) w:=by simp[getObj,Sem.run,q1]
      have hLn:L[n]?=some L[n]:=by simp[hn]
      generalize L[n]=e at hLn;obtain⟨u,w',g',v,x',r1,r2,r3,r4,r5,r6⟩:=key w1 n e1 e2 e3 e4 hn e hLn;have ag3:((#[]:Array (Option MapEntry))++(L++#[]).map some).size=L.size:=by simp
      have hcn:((#[]:Array (Option MapEntry))++(L++#[]).map some)[n]?=some (some e):=by simp[hLn]
      simp only[Instr.next,cF,Sv,cU,Sw,PU,fX,bZ,if_false,cZ,hL,hold,rE,hem,ag3,hch,hcn,r1]
      exact⟨_,w',g',v,x',rfl,r3,r4,r5,by rw[<- r2]; exact r6⟩
     by_cases hf:L.size<=1
     . refine KE 0 w ?_ rfl rfl rfl rfl (by omega);simp[choose,Sem.run,Question.forced,hf]
     . refine KE (w.tape w.drawn (.mapNext L.size)%L.size) w.drew ?_ rfl rfl rfl rfl (Nat.mod_lt _ (by omega));have hfq:Question.forced (.mapNext L.size)=false:=by simp only[Question.forced,decide_eq_false_iff_not]; exact hf
       simp only[choose,Sem.run,hfq,bZ,if_false,Question.cut];rfl
   . trivial
 . trivial
theorem MM (h:bw g U w) {i:AV} {v:Value} (hi:aA g i v):aC.Fits C g U (oe i U) ((do let x <- Instr.entry v; pure (Next.value x):Sem Next).run C.P w):=by
 unfold oe;split
 . rename_i o;simp only[aA]at hi;obtain⟨p,hp,rfl⟩:=hi;split
   . rename_i rest kv hit;obtain⟨p',k1,k2,m,es,clock,seen,k3,k4,_,e,k5,k6,k7,k8⟩:=h.live o _ (St.y7.1 hit);rw[hp]at k1; cases k1;obtain⟨q1,q2⟩:=h.cu m es clock k4;have Sv:(getObj p.aL).run C.P w=.ok (.mapIter (some m) clock seen clock) w:=by simp[getObj,Sem.run,k3]
     have Sw:(getObj m).run C.P w=.ok (.map es clock) w:=by simp[getObj,Sem.run,q1]
     have PZ:es.find? (λ x=>x.born==e.born)=some e:=by
      rw[<- Array.find?_toList];have hn:=q2.1;generalize es.toList=l at k5 hn
      induction l with
      | nil=>simp at k5
      | cons y l ih =>
        simp only[dH,List.nodup_cons]at hn;rw[List.find?_cons];rcases cK.1 k5 with rfl|hm
        . simp
        . have:(y.born==e.born)=false:=by
           simp only[beq_eq_false_iff_ne,ne_eq];intro he;exact hn.1 (he▸List.mem_map_of_mem hm)
          rw[this];exact ih hm hn.2
     simp only[Instr.entry,cF,Sv,cU,k6,Sw,bne_self_eq_false,bZ,if_false,fX,cZ,PZ];exact bj h (by simp only[aA,aH]; exact⟨_,rfl,_,_,rfl,k7,_,_,rfl,k8,rfl⟩)
   . trivial
 . trivial
theorem CJ (hG:jx C g) {ρ:Env} {a:Act} (hr:iQ g ρ a.tmps) (parts:Array (Nat×Operand)) :
 (parts.map λ (i,x)=>(i,a.eval x)).size=(og C ρ parts).length/\∀ (i:Nat) (p:Nat×AV) (q:Nat×Value),(og C ρ parts)[i]?=some p->(parts.map λ (i,x)=>(i,a.eval x))[i]?=some q->p.1=q.1/\aA g p.2 q.2:=by
 refine⟨by simp[og],λ i p q h1 h2=>?_⟩;simp only[og,oA,mH,qN]at h1;obtain⟨y,hy,rfl⟩:=h1;simp only[Array.getElem?_map,hy,Option.map_some,iI]at h2;subst h2;exact⟨rfl,vB hG hr _⟩
theorem OP (hG:jx C g) {ρ:Env} {a:Act} (hr:iQ g ρ a.tmps) (x:Option Operand):match x.map (ρ.ev C),x.map a.eval with|none,none=>True|some x,some u=>aA g x u|_,_=>False:=by
 cases x with
 | none=>trivial
 | some x=>exact vB hG hr x
theorem Fu {P:Program} {w:World} {t u ty e:TypeId} {i:TypeInfo} {z:Value} {k k':IntKind} (ht:P.underlying t=some (.slice e)) (hu:P.underlying u=some (.int k')) (hi:P.info? e=some i) (hz:i.zero=some z) (AR:i.bytes<=32768) (hp:0<i.size)
 {n:Nat} (h0:0<n) (hn:n<=65536) :
 (Builtin.append_ #[t,u] ty #[.slice none 0 0,.int k (n:Int)]).run P w =
   .ok (.slice (some ⟨w.heap.size,0,none⟩) n (grownCap w n 0 e))
    (w.drew.alloc (.cells (Builtin.zeroCells z.cells n++Builtin.zeroCells z.cells (grownCap w n 0 e-n)) e)):=by
 have ahk:IntKind.i64.wrap (n:Int)=n:=zR ⟨by omega,by omega⟩;have Xg:¬ (9223372036854775807<(n:Int)):=by omega
 have gz:n*i.bytes<=140737488355328:=Nat.le_trans (Nat.mul_le_mul hn AR) (by omega);have Sf:=growslice_fits (old:=0) (need:=n) (bytes:=i.bytes) (by omega) gz;have Xf:¬ (281474976710656<Builtin.nextslicecap n 0*i.bytes):=by omega
 have lu:¬ ((281474976710656:Int)<(n:Int)*(i.bytes:Int)):=by
  have:(n:Int)*(i.bytes:Int)=((n*i.bytes:Nat):Int):=by simp
  omega
 have SF:¬ (n=0\/i.size=0):=by omega
 have aiR:¬ ((n:Int)<0):=by omega
 simp[Builtin.append_,run_underlying ht,run_underlying hu,sizeOf,typeInfo,zeroValue,hi,hz,ahk,Xg,Xf,lu,SF,aiR,Question.forced,newRow,grownCap,asInt,asIntOf,Builtin.firstCells];have e1:n≠0:=by omega
 have e2:n*i.size≠0:=Nat.mul_ne_zero e1 (by omega);rw[if_neg e1,if_neg e2]
theorem PN {P:Program} {t u:TypeId} {q:TypeId×Nat×List AV} (h:Ev P t u=some q):∃ k,P.underlying u=some (.int k)/\gh P t=some (q.1,q.2.1)/\rA P q.1=some q.2.2:=by
 unfold Ev at h;split at h
 . rename_i k hu;split at h
   . rename_i e sz hs;split at h
     . rename_i z hz;cases h;exact⟨k,hu,hs,hz⟩
     . cases h
   . cases h
 . cases h
theorem PM (h:bw g U w) {t u ty:TypeId} {mu:Bool} {q:TypeId×Nat×List AV} (hq:Ev C.P t u=some q) {s y:AV} {v v2:Value} (hs:aA g s v) (hy:aA g y v2) :
 aC.Fits C g U (Jc q mu s y) ((do let r <- Builtin.append_ #[t,u] ty #[v,v2]; pure (Next.value r):Sem Next).run C.P w):=by
 obtain⟨k',hu,sC,hz⟩:=PN hq;unfold Jc;split
 . rename_i k n;rintro⟨h0,h1⟩;obtain⟨i,zv,ht,hi,p8,yc,fH,mD,AR,hz1⟩:=jO sC;obtain⟨i',zv',mC,HC,hm⟩:=pj hz;rw[hi]at mC; cases mC;rw[p8]at HC; cases HC;obtain⟨h2,h3⟩:=fE (g:=g) hm;simp only[aA]at hs hy;subst hs hy;obtain⟨m,rfl⟩:∃ m:Nat,n=m:=⟨n.toNat,by omega⟩;simp only[fW];have kV:=grownCap_ge w m 0 q.1;have hle:=grownCap_le_maxLen w m 0 q.1 (by unfold maxLen; omega);rw[cF,Fu (k:=k) ht hu hi p8 AR (by omega) (by omega) (by omega)];have fp:=h.grow (mz w);have A0:=vd (g:=g) h2 m;have KS:q.2.2.length=i.size:=by have:=h2.length; simp at this; omega
   have DA:=nY h3 m (by omega);have ZL:=nY h3 (grownCap w m 0 q.1-m) (by omega);have hlen:(Builtin.zeroCells zv.cells m).toList.length+(Builtin.zeroCells zv.cells (grownCap w m 0 q.1-m)).toList.length=grownCap w m 0 q.1*q.2.1:=by
    rw[uH,uH,size_zeroCells,size_zeroCells,yc,<- Nat.add_mul,<- fH];congr 1; omega
   have ew:Builtin.zeroCells zv.cells m++Builtin.zeroCells zv.cells (grownCap w m 0 q.1-m)=((Builtin.zeroCells zv.cells m).toList++(Builtin.zeroCells zv.cells (grownCap w m 0 q.1-m)).toList).toArray:=by simp
   rw[ew];simp only[cU,cZ];cases mu
   . exact qT fp A0 DA ZL (by rw[mX,KS,fH]) hlen kV hle
   . exact sv fp A0 DA ZL hlen kV hle
 . trivial
theorem RN (h:bw g U w) {t ty:TypeId} {x:AV} {v:Value} (hx:aA g x v) :
 aC.Fits C g U (JU (gh C.P t) x) ((do let r <- Builtin.cap_ #[t] ty #[v]; pure (Next.value r):Sem Next).run C.P w):=by
 unfold JU;split
 . rename_i q hq;obtain⟨e,sz⟩:=q;obtain⟨i,z,ht,_⟩:=jO hq;simp only[aA]at hx;subst hx;have:(Builtin.cap_ #[t] ty #[.slice none 0 0]).run C.P w=.ok (.int .i64 0) w:=by simp[Builtin.cap_,run_underlying ht]; rfl
   rw[cF,this];exact bj h (by simp only[aA])
 . trivial
theorem JI (h:bw g U w) {t u ty:TypeId} {mu:Bool} {s y:AV} {v v2:Value} (hs:aA g s v) (hy:aA g y v2) :
 aC.Fits C g U (BY C.P t u mu s y U) ((do let r <- Builtin.append_ #[t,u] ty #[v,v2]; pure (Next.value r):Sem Next).run C.P w):=by
 unfold BY;split
 . rename_i q hq;exact PM h hq hs hy
 . exact JH h hs hy
theorem Ps (h:bw g U w) (hG:jx C g) {ρ:Env} {a:Act} (hr:iQ g ρ a.tmps) (mu:Bool) (c:Call) (ty:TypeId) :
 aC.Fits C g U (B6 C mu c ρ U) ((do let d <- resolve a.eval c ty; invoke d.target d.args:Sem Next).run C.P w):=by
 obtain⟨callee,⟨args⟩,⟨argTypes⟩⟩:=c;have e:=λ x=>vB hG hr x;have fin:aC.Fits C g U (match callee,argTypes,args with
  | .value f,_,args=>jz C.P (ρ.ev C f) (args.map (ρ.ev C))
  | .builtin .len,[t],[x]=>K9 C.P t (ρ.ev C x) U
  | .builtin .append,[t,u],[s,y]=>BY C.P t u mu (ρ.ev C s) (ρ.ev C y) U
  | .builtin .cap,[t],[x]=>JU (gh C.P t) (ρ.ev C x)
  | .builtin .min,_,[x,y]=>Bh (ρ.ev C x) (ρ.ev C y)
  | .builtin .max,_,[x,y]=>DH (ρ.ev C x) (ρ.ev C y)
  | .builtin .clear,[t],[x]=>AD C.P t (ρ.ev C x) U
  | _,_,_=>.bad) ((do let d <- resolve a.eval ⟨callee,⟨args⟩,⟨argTypes⟩⟩ ty; invoke d.target d.args:Sem Next).run C.P w):=by
  split
  . rename_i f;have:=W7 (C:=C) h (e f) (B9 hG hr args);have e2:(args.map a.eval).toArray=(⟨args⟩:Array Operand).map a.eval:=by simp
    rw[e2]at this;exact this
  . rename_i t x;have:=Ta (C:=C) (ty:=ty) h (t:=t) (e x);simpa only[resolve,invoke,builtin,cF,cZ,cU,List.map_toArray,dH,oB] using this
  . rename_i t u s y;have:=JI (C:=C) (ty:=ty) (mu:=mu) h (t:=t) (u:=u) (e s) (e y);simpa only[resolve,invoke,builtin,cF,cZ,cU,List.map_toArray,dH,oB] using this
  . rename_i t x;have:=RN (C:=C) (ty:=ty) h (t:=t) (e x);simpa only[resolve,invoke,builtin,cF,cZ,cU,List.map_toArray,dH,oB] using this
  . rename_i x y;have:=Tg (C:=C) (ty:=ty) (ts:=⟨argTypes⟩) h (e x) (e y);simpa only[resolve,invoke,builtin,cF,cZ,cU,List.map_toArray,dH,oB] using this
  . rename_i x y;have:=Tf (C:=C) (ty:=ty) (ts:=⟨argTypes⟩) h (e x) (e y);simpa only[resolve,invoke,builtin,cF,cZ,cU,List.map_toArray,dH,oB] using this
  . rename_i t x;have:=MJ (C:=C) (ty:=ty) h (t:=t) (e x);simpa only[resolve,invoke,builtin,cF,cZ,cU,List.map_toArray,dH,oB] using this
  . trivial
 exact fin
theorem XS (h:bw g U w) (hG:jx C g) {ρ:Env} {a:Act} (hr:iQ g ρ a.tmps) (mu:Bool) (o:Oper):aC.Fits C g U (kY C mu o.op ρ U) ((execOp a.eval o).run C.P w):=by
 have e:=λ x=>vB hG hr x;obtain⟨dst,op,type,pos,after,guard⟩:=o;unfold kY;dsimp only;split
 . exact bj h (e _)
 . exact bj h (e _)
 . rename_i c x y;unfold bN;split
   . rename_i t ht;have hc:=e c;rw[ht]at hc;simp only[aA]at hc;simp only[execOp,hc,asBool,cF,cZ,cU];refine bj h ?_;cases t
     . exact e _
     . exact e _
   . trivial
 . exact MB h
 . exact RF h (e _)
 . obtain⟨h1,h2⟩:=CJ hG hr ‹_›;exact MG h h1 h2
 . obtain⟨h1,h2⟩:=CJ hG hr ‹_›;exact Ds h h1 h2
 . exact wN h (e _) (e _) (e _)
 . exact wN h (e _) (e _) (e _)
 . exact Qq h (e _)
 . exact Nn h (e _) (e _)
 . exact Gx h rfl (e _)
 . exact RC h _ _ (e _) (e _)
 . exact YV h (e _)
 . exact Px h (e _)
 . exact EY h (e _)
 . rename_i fn first cap
   simp only[execOp,Instr.makeFunc,cF,cZ,cU];refine bj h ?_;simp only[aA];exact⟨first.toList.map a.eval,cap.toList.map a.eval,by congr 1<;>(apply Array.ext'; simp),B9 hG hr _,B9 hG hr _⟩
 . simp only[execOp,Instr.makeMap,Option.map_none,cF,cZ,cU,run_newObj];exact QA h
 . exact Nl h (e _) (OP hG hr _) (OP hG hr _)
 . exact Ep h (e _)
 . exact Ga h (e _)
 . exact EN h (e _) (e _)
 . exact MW h (e _) (e _)
 . exact Lf h (e _) (e _)
 . exact IU h (e _) _
 . exact Nc h (e _)
 . exact Ng h (e _)
 . exact D7 h (e _)
 . exact EZ h (e _) (e _)
 . exact QB h (e _)
 . exact MM h (e _)
 . exact Ps h hG hr mu _ _
 . trivial
end
end Go.Rip
