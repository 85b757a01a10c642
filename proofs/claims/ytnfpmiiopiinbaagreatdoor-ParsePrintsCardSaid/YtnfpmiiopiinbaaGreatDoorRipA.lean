/- Lemmas for the proof: no conditions. -/
import Derived.Test.YtnfpmiiopiinbaaGreatDoorRipZz
import Derived.RangeFuncIn
import Derived.Laws.AppendOwn
import Derived.Below
import Derived.Laws.StructEq
import Derived.Lib.ConvBytes
import Derived.RangeFuncLeaves
import Derived.RangeFuncCalls
import Derived.Laws.MakeOwn
set_option linter.unusedVariables false
set_option linter.unusedSimpArgs false
set_option linter.loopingSimpArgs false
namespace Go.Rip
open Go.RowKit
structure Tok where
 n:Nat
 e:TypeId
 size:Nat
 deriving DecidableEq
inductive nY where
 | full
 | own (τ:Nat)
 | kV
inductive AV where
 | bool (b:Bool)
 | int (k:IntKind) (n:Int)
 | str (s:List UInt8)
 | bU
 | aA
 | lr
 | ez
 | dv
 | box (b off:Nat)
 | cU (l:List AV)
 | vec (n:Nat) (cap:nY) (l:List AV)
 | ms (b off n jq:Nat) (e:TypeId)
 | mp (m:Nat)
 | gb (ks vs:List AV)
 | func (fn:Fn) (first captured:List AV)
 | iface (t:TypeId) (v:AV)
 | agg (l:List AV)
 | aG (l:List AV)
 | qI (o:Nat)
 | it (o:Nat)
 | any
instance:Inhabited AV:=⟨.any⟩
structure Place where
 aN:Nat
 e:TypeId
 size:Nat
structure fp where
 ρ:Nat->AV
 nt:Nat
 params:Array Tmp
 assign:Code
 body:Code
 state:LoopState
 fM:Option Code
 tag:Nat
inductive Live where
 | box (l:List AV)
 | tok (t:Tok)
 | mp (ks vs:List AV)
 | loop (L:fp)
 | iter (rest:List (AV × AV)) (cur:Option (AV × AV))
 | sK (t:TypeId) (l:List AV)
structure Gh where
 base:Nat
 w0:World
 place:Nat->Option Place
 cC:Nat->Nat->Option Value
 cj:Nat->Option (Array MapEntry × Nat)
 res:Nat->Bool
def Gh.box (g:Gh) (b:Nat):Option Place:=g.place b
def Gh.tok (g:Gh) (b:Nat):Option (Nat × Nat):=(g.place b).map fun p=>(p.aN,p.size)
def Gh.mp (g:Gh) (b:Nat):Option Nat:=(g.place b).map (·.aN)
theorem Gh.kj {g:Gh} {b:Nat} {x:Nat × Nat}:g.tok b=some x ↔ ∃ p,g.place b=some p/\p.aN=x.1/\p.size=x.2:=by
 unfold Gh.tok
 cases g.place b with
 | none=>simp
 | some p=>simp [Prod.ext_iff]
theorem Gh.pj {g:Gh} {b:Nat} {x:Nat}:g.mp b=some x ↔ ∃ p,g.place b=some p/\p.aN=x:=by
 unfold Gh.mp
 cases g.place b with
 | none=>simp
 | some p=>simp
def lV (g:Gh) (aN off:Nat) (vs:List Value):Prop:=∀ i u,vs[i]?=some u->g.cC aN (off+i)=some u
def ud (g:Gh) (cap:nY) (aN off n c:Nat):Prop :=
 match cap with
 | .full=>c=n
 | .own τ=>off=0/\g.tok τ=some (aN,c)
 | .kV=>True
def jy:AV->AV->Bool
 | .int k a,.int k' b=>decide (k=k') && decide (a < b)
 | .str a,.str b=>decide (a < b)
 | _,_=>false
def o6 (ks:List AV):Prop:=ks.Pairwise (fun a b=>jy a b=true)
def km (es:Array MapEntry) (clock:Nat):Prop:=(es.toList.map (·.born)).Nodup/\∀ e ∈ es.toList,e.born < clock
mutual
def aE (g:Gh):AV->Value->Prop
 | .bool b,v=>v=.bool b
 | .int k n,v=>v=.int k n
 | .str s,v=>v=.string ⟨s.toArray⟩
 | .bU,v=>v=.pointer none
 | .aA,v=>v=.slice none 0 0
 | .lr,v=>v=.map none
 | .ez,v=>v=.nilFunc
 | .dv,v=>v=.nilIface
 | .box b off,v=>∃ x,g.box b=some x/\v=.pointer (some ⟨x.aN,off,none⟩)
 | .cU l,v=>∃ aN off vs,v=.pointer (some ⟨aN,off,none⟩)/\lV g aN off vs/\aH g l vs
 | .vec n cap l,v=>∃ aN off c vs,v=.slice (some ⟨aN,off,none⟩) n c/\n <= c/\c <= maxLen/\ud g cap aN off n c/\lV g aN off vs/\aH g l vs
 | .ms b off n jq e,v=>∃ x c,g.box b=some x/\v=.slice (some ⟨x.aN,off,none⟩) n c/\n <= c/\c <= maxLen/\off+c * jq=x.size/\x.e=e
 | .mp m,v=>∃ r,g.mp m=some r/\v=.map (some r)
 | .gb ks vs,v=>∃ r es clock,∃ l:List MapEntry,v=.map (some r)/\g.cj r=some (es,clock)/\l.Perm es.toList/\o6 ks/\aH g ks (l.map (·.key))/\aH g vs (l.map (·.val))
 | .func fn first captured,v=>∃ fs cs,v=.func fn (List.toArray fs) (List.toArray cs)/\aH g first fs/\aH g captured cs
 | .iface t x,v=>∃ u,v=.iface t u/\aE g x u
 | .agg l,v=>∃ vs,v=.agg (List.toArray vs)/\(∀ u ∈ vs,u.oneCell'=true)/\aH g l vs
 | .aG l,v=>∃ vs,v=.tuple (List.toArray vs)/\aH g l vs
 | .qI o,v=>∃ x,g.place o=some x/\v=.func (.yield x.aN) #[] #[]
 | .it o,v=>∃ x,g.place o=some x/\v=.pointer (some ⟨x.aN,0,none⟩)
 | .any,_=>True
def aH (g:Gh):List AV->List Value->Prop
 | [],vs=>vs=[]
 | x::xs,vs=>∃ u us,vs=u::us/\aE g x u/\aH g xs us
end
structure Gh.Le (g g':Gh):Prop where
 base:g'.base=g.base
 w0:g'.w0=g.w0
 place:∀ b x,g.place b=some x->g'.place b=some x
 cC:∀ b o x,g.cC b o=some x->g'.cC b o=some x
 cj:∀ b x,g.cj b=some x->g'.cj b=some x
 res:∀ b,g.res b=true->g'.res b=true
 ze:∀ b o,b < g.base->g'.cC b o=g.cC b o
 vT:∀ b,b < g.base->g'.cj b=g.cj b
theorem Gh.Le.refl (g:Gh):Gh.Le g g:=⟨rfl,rfl,fun _ _ h=>h,fun _ _ _ h=>h,fun _ _ h=>h,fun _ h=>h,fun _ _ _=>rfl,fun _ _=>rfl⟩
theorem Gh.Le.trans {a b c:Gh} (h:Gh.Le a b) (k:Gh.Le b c):Gh.Le a c :=
 ⟨k.base.trans h.base,k.w0.trans h.w0,fun _ _ x=>k.place _ _ (h.place _ _ x),fun _ _ _ x=>k.cC _ _ _ (h.cC _ _ _ x),fun _ _ x=>k.cj _ _ (h.cj _ _ x),fun _ x=>k.res _ (h.res _ x),
   fun q o hq=>(k.ze q o (by rw [h.base]; exact hq)).trans (h.ze q o hq),fun q hq=>(k.vT q (by rw [h.base]; exact hq)).trans (h.vT q hq)⟩
structure Gh.tg (g g':Gh):Prop where
 place:∀ b x,g.place b=some x->g'.place b=some x
 cC:∀ b o x,g.cC b o=some x->g'.cC b o=some x
 cj:∀ b x,g.cj b=some x->g'.cj b=some x
theorem Gh.tg.tok {g g':Gh} (h:Gh.tg g g') {b:Nat} {x:Nat × Nat} (hb:g.tok b=some x):g'.tok b=some x:=by
 obtain ⟨p,h1,h2,h3⟩:=Gh.kj.1 hb
 exact Gh.kj.2 ⟨p,h.place _ _ h1,h2,h3⟩
theorem Gh.tg.mp {g g':Gh} (h:Gh.tg g g') {b x:Nat} (hb:g.mp b=some x):g'.mp b=some x:=by
 obtain ⟨p,h1,h2⟩:=Gh.pj.1 hb
 exact Gh.pj.2 ⟨p,h.place _ _ h1,h2⟩
theorem Gh.Le.r {g g':Gh} (h:Gh.Le g g'):Gh.tg g g':=⟨h.place,h.cC,h.cj⟩
theorem Gh.Le.box {g g':Gh} (h:Gh.Le g g') (b:Nat) (x:Place) (hb:g.box b=some x):g'.box b=some x:=h.place b x hb
theorem Gh.Le.tok {g g':Gh} (h:Gh.Le g g') (b:Nat) (x:Nat × Nat) (hb:g.tok b=some x):g'.tok b=some x:=h.r.tok hb
theorem Gh.Le.mp {g g':Gh} (h:Gh.Le g g') (b:Nat) (x:Nat) (hb:g.mp b=some x):g'.mp b=some x:=h.r.mp hb
theorem lV.eU {g g':Gh} (h:Gh.tg g g') {aN off:Nat} {vs:List Value} (hi:lV g aN off vs):lV g' aN off vs:=fun i u hu=>h.cC _ _ _ (hi i u hu)
theorem ud.eU {g g':Gh} (h:Gh.tg g g') {cap:nY} {aN off n c:Nat} (hi:ud g cap aN off n c):ud g' cap aN off n c:=by
 cases cap with
 | full=>exact hi
 | own τ=>exact ⟨hi.1,h.tok hi.2⟩
 | kV=>trivial
mutual
theorem aE.eU {g g':Gh} (h:Gh.tg g g'):∀ (x:AV) (v:Value),aE g x v->aE g' x v
 | .bool _,_,hr=>hr
 | .int _ _,_,hr=>hr
 | .str _,_,hr=>hr
 | .bU,_,hr=>hr
 | .aA,_,hr=>hr
 | .lr,_,hr=>hr
 | .ez,_,hr=>hr
 | .dv,_,hr=>hr
 | .box _ _,_,hr=>by
   simp only [aE] at hr ⊢
   obtain ⟨x,hx,hv⟩:=hr
   exact ⟨x,h.place _ _ hx,hv⟩
 | .cU l,_,hr=>by
   simp only [aE] at hr ⊢
   obtain ⟨aN,off,vs,hv,hi,hl⟩:=hr
   exact ⟨aN,off,vs,hv,hi.eU h,aH.eU h l vs hl⟩
 | .vec n cap l,_,hr=>by
   simp only [aE] at hr ⊢
   obtain ⟨aN,off,c,vs,hv,h1,h2,hc,hi,hl⟩:=hr
   exact ⟨aN,off,c,vs,hv,h1,h2,hc.eU h,hi.eU h,aH.eU h l vs hl⟩
 | .ms _ _ _ _ _,_,hr=>by
   simp only [aE] at hr ⊢
   obtain ⟨x,c,hx,r⟩:=hr
   exact ⟨x,c,h.place _ _ hx,r⟩
 | .mp _,_,hr=>by
   simp only [aE] at hr ⊢
   obtain ⟨x,hx,hv⟩:=hr
   exact ⟨x,h.mp hx,hv⟩
 | .gb ks vs,_,hr=>by
   simp only [aE] at hr ⊢
   obtain ⟨r,es,c,l,hv,he,hp,hs,h1,h2⟩:=hr
   exact ⟨r,es,c,l,hv,h.cj _ _ he,hp,hs,aH.eU h ks _ h1,aH.eU h vs _ h2⟩
 | .func fn first captured,_,hr=>by
   simp only [aE] at hr ⊢
   obtain ⟨fs,cs,hv,h1,h2⟩:=hr
   exact ⟨fs,cs,hv,aH.eU h first _ h1,aH.eU h captured _ h2⟩
 | .iface t x,_,hr=>by
   simp only [aE] at hr ⊢
   obtain ⟨u,hv,h1⟩:=hr
   exact ⟨u,hv,aE.eU h x _ h1⟩
 | .agg l,_,hr=>by
   simp only [aE] at hr ⊢
   obtain ⟨vs,hv,h0,h1⟩:=hr
   exact ⟨vs,hv,h0,aH.eU h l _ h1⟩
 | .aG l,_,hr=>by
   simp only [aE] at hr ⊢
   obtain ⟨vs,hv,h1⟩:=hr
   exact ⟨vs,hv,aH.eU h l _ h1⟩
 | .qI o,_,hr=>by
   simp only [aE] at hr ⊢
   obtain ⟨x,hx,hv⟩:=hr
   exact ⟨x,h.place _ _ hx,hv⟩
 | .it o,_,hr=>by
   simp only [aE] at hr ⊢
   obtain ⟨x,hx,hv⟩:=hr
   exact ⟨x,h.place _ _ hx,hv⟩
 | .any,_,_=>by simp only [aE]
theorem aH.eU {g g':Gh} (h:Gh.tg g g'):∀ (l:List AV) (vs:List Value),aH g l vs->aH g' l vs
 | [],_,hr=>by simpa only [aH] using hr
 | x::xs,_,hr=>by
   simp only [aH] at hr ⊢
   obtain ⟨u,us,hv,h1,h2⟩:=hr
   exact ⟨u,us,hv,aE.eU h x _ h1,aH.eU h xs _ h2⟩
end
theorem lV.mono {g g':Gh} (h:Gh.Le g g') {aN off:Nat} {vs:List Value} (hi:lV g aN off vs):lV g' aN off vs:=hi.eU h.r
theorem aE.mono {g g':Gh} (h:Gh.Le g g') (x:AV) (v:Value) (hr:aE g x v):aE g' x v:=aE.eU h.r x v hr
theorem aH.mono {g g':Gh} (h:Gh.Le g g') (l:List AV) (vs:List Value) (hr:aH g l vs):aH g' l vs:=aH.eU h.r l vs hr
theorem aH.length {g:Gh}:∀ {l:List AV} {vs:List Value},aH g l vs->vs.length=l.length
 | [],_,h=>by simp only [aH] at h; simp [h]
 | _::xs,_,h=>by
   simp only [aH] at h
   obtain ⟨u,us,rfl,_,h2⟩:=h
   simp [aH.length h2]
theorem aH.append {g:Gh}:∀ {l l':List AV} {vs vs':List Value},aH g l vs->aH g l' vs'->aH g (l++l') (vs++vs')
 | [],_,_,_,h,h'=>by simp only [aH] at h; subst h; simpa using h'
 | _::xs,_,_,_,h,h'=>by
   simp only [aH,iX] at h ⊢
   obtain ⟨u,us,rfl,h1,h2⟩:=h
   exact ⟨u,us++_,rfl,h1,aH.append h2 h'⟩
theorem aH.get {g:Gh}:∀ {l:List AV} {vs:List Value} {i:Nat} {x:AV},aH g l vs->l[i]?=some x->∃ v,vs[i]?=some v/\aE g x v
 | [],_,_,_,_,hx=>by simp at hx
 | y::xs,_,0,x,h,hx=>by
   simp only [aH] at h
   obtain ⟨u,us,rfl,h1,h2⟩:=h
   simp at hx; subst hx; exact ⟨u,rfl,h1⟩
 | y::xs,_,i+1,x,h,hx=>by
   simp only [aH] at h
   obtain ⟨u,us,rfl,h1,h2⟩:=h
   simp at hx
   obtain ⟨v,hv,hr⟩:=aH.get h2 hx
   exact ⟨v,by simpa using hv,hr⟩
theorem aH.drop {g:Gh}:∀ {l:List AV} {vs:List Value} (n:Nat),aH g l vs->aH g (l.drop n) (vs.drop n)
 | _,_,0,h=>by simpa using h
 | [],_,n+1,h=>by simp only [aH] at h; subst h; simp [aH]
 | _::xs,_,n+1,h=>by
   simp only [aH] at h
   obtain ⟨u,us,rfl,h1,h2⟩:=h
   simpa using aH.drop n h2
theorem aH.take {g:Gh}:∀ {l:List AV} {vs:List Value} (n:Nat),aH g l vs->aH g (l.take n) (vs.take n)
 | _,_,0,_=>by simp [aH]
 | [],_,n+1,h=>by simp only [aH] at h; subst h; simp [aH]
 | _::xs,_,n+1,h=>by
   simp only [aH] at h
   obtain ⟨u,us,rfl,h1,h2⟩:=h
   simp only [List.take_succ_cons,aH]
   exact ⟨u,_,rfl,h1,aH.take n h2⟩
theorem aH.CT {g:Gh}:∀ {l:List AV} {vs:List Value},vs.length=l.length->(∀ (i:Nat) (x:AV) (v:Value),l[i]?=some x->vs[i]?=some v->aE g x v)->aH g l vs
 | [],vs,hl,_=>by simp only [aH]; simpa using hl
 | x::xs,[],hl,_=>by simp at hl
 | x::xs,v::vs,hl,h=>by
   simp only [aH]
   exact ⟨v,vs,rfl,h 0 x v rfl rfl,aH.CT (by simpa using hl) fun i x v hx hv=>h (i+1) x v (by simpa using hx) (by simpa using hv)⟩
def wD (g:Gh) (ks vs:List AV) (es:Array MapEntry):Prop:=∃ l:List MapEntry,l.Perm es.toList/\o6 ks/\aH g ks (l.map (·.key))/\aH g vs (l.map (·.val))
def B6 (g:Gh) (es:Array MapEntry) (seen:Array Nat) (rest:List (AV × AV)) (cur:Option (AV × AV)):Prop :=
 (∃ l:List MapEntry,l.Perm (es.toList.filter fun e=>!seen.contains e.born)/\aH g (rest.map (·.1)) (l.map (·.key))/\aH g (rest.map (·.2)) (l.map (·.val))) /\
 (match cur with
  | none=>True
  | some (k,v)=>∃ e ∈ es.toList,seen.back?=some e.born/\aE g k e.key/\aE g v e.val)
def lg (g:Gh) (w:World) (p:Place):Live->Prop
 | .box l=>∃ cur vs rest,w.heap[p.aN]?=some (.cells cur p.e (0,0))/\cur.size=p.size/\cur.toList=vs++rest/\aH g l vs/\(∀ u ∈ cur.toList,u.oneCell'=true)/\(∀ o,g.cC p.aN o=none)
 | .tok t=>∃ cur,w.heap[p.aN]?=some (.cells cur t.e (0,0))/\cur.size=p.size * t.size/\t.n <= p.size/\p.size <= maxLen/\(∀ o,t.n * t.size <= o->g.cC p.aN o=none)
 | .mp ks vs=>∃ es clock,w.heap[p.aN]?=some (.map es clock)/\km es clock/\wD g ks vs es/\g.cj p.aN=none
 | .loop L=>∃ fn tmps defers,w.heap[p.aN]?=some (.loop { state:=L.state,pending:=L.fM,fn,tmps,params:=L.params,assign:=L.assign,body:=L.body,defers })/\tmps.size=L.nt/\∀ t,aE g (L.ρ t) (tmps.getD t undef)
 | .iter rest cur=>∃ m es clock seen,w.heap[p.aN]?=some (.mapIter (some m) clock seen clock)/\g.cj m=some (es,clock)/\B6 g es seen rest cur
 | .sK t l=>p.e=t/\p.size=l.length/\∃ cur vs rest,w.heap[p.aN]?=some (.cells cur p.e (0,0))/\cur.size=p.size/\cur.toList=vs++rest/\aH g l vs/\(∀ u ∈ cur.toList,u.oneCell'=true)/\(∀ o,g.cC p.aN o=none)
structure St where
 live:Nat->Option Live
 nb:Option Nat
def St.box (U:St) (b:Nat):Option (List AV):=match U.live b with | some (.box l)=>some l | some (.sK _ l)=>some l | _=>none
def St.tok (U:St) (b:Nat):Option Tok:=match U.live b with | some (.tok t)=>some t | _=>none
def St.mp (U:St) (b:Nat):Option (List AV × List AV):=match U.live b with | some (.mp ks vs)=>some (ks,vs) | _=>none
def St.loop (U:St) (b:Nat):Option fp:=match U.live b with | some (.loop L)=>some L | _=>none
def St.iter (U:St) (b:Nat):Option (List (AV × AV) × Option (AV × AV)):=match U.live b with | some (.iter r c)=>some (r,c) | _=>none
theorem St.wH {U:St} {b:Nat} {l:List AV} (h:U.box b=some l):∃ x,U.live b=some x/\∀ g w p,lg g w p x->lg g w p (.box l):=by
 unfold St.box at h
 split at h
 . rename_i l' hl; cases h; exact ⟨_,hl,fun _ _ _ h=>h⟩
 . rename_i t l' hl; cases h; exact ⟨_,hl,fun _ _ _ h=>h.2.2⟩
 . cases h
theorem St.kj {U:St} {b:Nat} {l:Tok}:U.tok b=some l ↔ U.live b=some (.tok l):=by unfold St.tok; split <;> simp_all
theorem St.pj {U:St} {b:Nat} {l:List AV × List AV}:U.mp b=some l ↔ U.live b=some (.mp l.1 l.2):=by unfold St.mp; split <;> simp_all [Prod.ext_iff]
theorem St.mP {U:St} {b:Nat} {l:fp}:U.loop b=some l ↔ U.live b=some (.loop l):=by unfold St.loop; split <;> simp_all
theorem St.wZ {U:St} {b:Nat} {l:List (AV × AV) × Option (AV × AV)}:U.iter b=some l ↔ U.live b=some (.iter l.1 l.2):=by unfold St.iter; split <;> simp_all [Prod.ext_iff]
def St.set (U:St) (b:Nat) (x:Live):St:={ U with live:=fun y=>if y=b then some x else U.live y }
def St.del (U:St) (b:Nat):St:={ U with live:=fun y=>if y=b then none else U.live y }
def St.new (U:St) (b:Nat) (x:Live):St:={ live:=fun y=>if y=b then some x else U.live y,nb:=U.nb.map (·+1) }
def St.dw (U:St) (b:Nat):Prop:=U.live b=none/\∀ n,U.nb=some n->b=n
structure bp (g:Gh) (U:St) (w:World):Prop where
 below:Below g.base g.w0 w
 le:g.base <= w.heap.size
 cC:∀ aN o u,g.cC aN o=some u->w.cell? ⟨aN,o,none⟩=some u/\u.oneCell'=true
 cj:∀ r es c,g.cj r=some (es,c)->w.heap[r]?=some (.map es c)/\km es c
 live:∀ b x,U.live b=some x->∃ p,g.place b=some p/\g.base <= p.aN/\lg g w p x
 apart:∀ b b' x x' p p',U.live b=some x->U.live b'=some x'->g.place b=some p->g.place b'=some p'->p.aN=p'.aN->b=b'
 res:∀ r,g.res r=true->g.base <= r/\w.heap[r]?=some (.deferred (some []))
 fin:∃ N,(∀ n,U.nb=some n->N=n)/\∀ b,N <= b->g.place b=none
end Go.Rip
namespace Go.Rip
open Go.RowKit
structure St.Le (U af:St):Prop where
 live:∀ b x,U.live b=some x->af.live b=some x
 nb:∀ n,U.nb=some n->af.nb=some n
theorem St.Le.refl (U:St):St.Le U U:=⟨fun _ _ h=>h,fun _ h=>h⟩
theorem St.Le.trans {a b c:St} (h:St.Le a b) (k:St.Le b c):St.Le a c:=⟨fun _ _ x=>k.live _ _ (h.live _ _ x),fun _ x=>k.nb _ (h.nb _ x)⟩
theorem St.vC (U:St) (b:Nat):St.Le (U.del b) U:=⟨fun x y hx=>by simp only [St.del] at hx; split at hx <;> simp_all,fun _ h=>h⟩
theorem bp.weaken {g:Gh} {U af:St} {w:World} (h:bp g af w) (hl:St.Le U af):bp g U w where
 below:=h.below
 le:=h.le
 cC:=h.cC
 cj:=h.cj
 live:=fun b l hb=>h.live b l (hl.live _ _ hb)
 apart:=fun b b' l l' x x' h1 h2=>h.apart b b' l l' x x' (hl.live _ _ h1) (hl.live _ _ h2)
 res:=h.res
 fin:=let ⟨N,h1,h2⟩:=h.fin; ⟨N,fun n hn=>h1 n (hl.nb n hn),h2⟩
theorem FN {w w':World} {k:Nat} (h:w'.heap[k]?=w.heap[k]?) (o:Nat):w'.cell? ⟨k,o,none⟩=w.cell? ⟨k,o,none⟩:=by simp [World.cell?,h]
theorem bp.N4 {g:Gh} {U:St} {w:World} (h:bp g U w) {aN o:Nat} {u:Value} (hi:g.cC aN o=some u):aN < w.heap.size :=
 World.block_lt_of_cell? w ⟨aN,o,none⟩ (h.cC _ _ _ hi).1
theorem bp.Km {g:Gh} {U:St} {w:World} (h:bp g U w) {r:Nat} {x:Array MapEntry × Nat} (hi:g.cj r=some x):r < w.heap.size :=
 (kG.1 (h.cj r x.1 x.2 hi).1).1
theorem bp.Ak {g:Gh} {U:St} {w:World} (h:bp g U w) {q:Nat} (hq:w.heap.size <= q) (o:Nat):g.cC q o=none:=by
 cases e:g.cC q o with
 | none=>rfl
 | some u=>have:=h.N4 e; omega
theorem bp.wS {g:Gh} {U:St} {w:World} (h:bp g U w) {q:Nat} (hq:w.heap.size <= q):g.cj q=none:=by
 cases e:g.cj q with
 | none=>rfl
 | some u=>have:=h.Km e; omega
theorem wD.eU {g g':Gh} (h:Gh.tg g g') {ks vs:List AV} {es:Array MapEntry} (hm:wD g ks vs es):wD g' ks vs es :=
 let ⟨l,h1,h2,h3,h4⟩:=hm; ⟨l,h1,h2,h3.eU h,h4.eU h⟩
theorem B6.eU {g g':Gh} (h:Gh.tg g g') {es:Array MapEntry} {seen:Array Nat} {rest:List (AV × AV)} {cur:Option (AV × AV)} (hm:B6 g es seen rest cur):B6 g' es seen rest cur:=by
 obtain ⟨⟨l,h1,h2,h3⟩,h4⟩:=hm
 refine ⟨⟨l,h1,h2.eU h,h3.eU h⟩,?_⟩
 cases cur with
 | none=>trivial
 | some kv=>obtain ⟨e,k1,k2,k3,k4⟩:=h4; exact ⟨e,k1,k2,k3.eU h,k4.eU h⟩
theorem lg.frame {g g':Gh} {w w':World} {p:Place} {x:Live} (h:lg g w p x) (hl:Gh.tg g g') (hb:w'.heap[p.aN]?=w.heap[p.aN]?) (hi:∀ o,g'.cC p.aN o=g.cC p.aN o) (hm:g'.cj p.aN=g.cj p.aN):lg g' w' p x:=by
 cases x with
 | box l=>obtain ⟨cur,vs,rest,h1,h2,h3,h4,h5,h6⟩:=h; exact ⟨cur,vs,rest,hb.trans h1,h2,h3,h4.eU hl,h5,fun o=>(hi o).trans (h6 o)⟩
 | tok t=>obtain ⟨cur,h1,h2,h3,h4,h5⟩:=h; exact ⟨cur,hb.trans h1,h2,h3,h4,fun o ho=>(hi o).trans (h5 o ho)⟩
 | mp ks vs=>obtain ⟨es,clock,h1,h2,h3,h4⟩:=h; exact ⟨es,clock,hb.trans h1,h2,h3.eU hl,hm.trans h4⟩
 | loop L=>obtain ⟨fn,tmps,defers,h1,h2,h3⟩:=h; exact ⟨fn,tmps,defers,hb.trans h1,h2,fun t=>(h3 t).eU hl⟩
 | iter rest cur=>obtain ⟨m,es,clock,seen,h1,h2,h3⟩:=h; exact ⟨m,es,clock,seen,hb.trans h1,hl.cj _ _ h2,h3.eU hl⟩
 | sK t l=>obtain ⟨e1,e2,cur,vs,rest,h1,h2,h3,h4,h5,h6⟩:=h; exact ⟨e1,e2,cur,vs,rest,hb.trans h1,h2,h3,h4.eU hl,h5,fun o=>(hi o).trans (h6 o)⟩
theorem lg.lt {g:Gh} {w:World} {p:Place} {x:Live} (h:lg g w p x):p.aN < w.heap.size:=by
 have:∃ o,w.heap[p.aN]?=some o:=by
  cases x with
  | box l=>obtain ⟨cur,vs,rest,h1,_⟩:=h; exact ⟨_,h1⟩
  | tok t=>obtain ⟨cur,h1,_⟩:=h; exact ⟨_,h1⟩
  | mp ks vs=>obtain ⟨es,clock,h1,_⟩:=h; exact ⟨_,h1⟩
  | loop L=>obtain ⟨fn,tmps,defers,h1,_⟩:=h; exact ⟨_,h1⟩
  | iter rest cur=>obtain ⟨m,es,clock,seen,h1,_⟩:=h; exact ⟨_,h1⟩
  | sK t l=>obtain ⟨_,_,cur,vs,rest,h1,_⟩:=h; exact ⟨_,h1⟩
 exact (kG.1 this.choose_spec).1
theorem lg.Kz {g:Gh} {w:World} {p:Place} {x:Live} (h:lg g w p x) {r:Nat} {ds:Option (List Deferred)} (hr:w.heap[r]?=some (.deferred ds)):p.aN ≠ r:=by
 intro e
 subst e
 cases x with
 | box l=>obtain ⟨cur,vs,rest,h1,_⟩:=h; rw [hr] at h1; cases h1
 | tok t=>obtain ⟨cur,h1,_⟩:=h; rw [hr] at h1; cases h1
 | mp ks vs=>obtain ⟨es,clock,h1,_⟩:=h; rw [hr] at h1; cases h1
 | loop L=>obtain ⟨fn,tmps,defers,h1,_⟩:=h; rw [hr] at h1; cases h1
 | iter rest cur=>obtain ⟨m,es,clock,seen,h1,_⟩:=h; rw [hr] at h1; cases h1
 | sK t l=>obtain ⟨_,_,cur,vs,rest,h1,_⟩:=h; rw [hr] at h1; cases h1
theorem bp.change {g g':Gh} {U:St} {w w':World} (h:bp g U w) (B:Nat) (hB:g.base <= B) (hle:Gh.Le g g') (ll:g'.place=g.place) (hres:g'.res=g.res)
 (hw:w'.os=w.os/\w'.tape=w.tape/\w'.output=w.output/\w.heap.size <= w'.heap.size) (hk:∀ k,k ≠ B->k < w.heap.size->w'.heap[k]?=w.heap[k]?)
 (nK:∀ q o,q ≠ B->g'.cC q o=g.cC q o) (UK:∀ q,q ≠ B->g'.cj q=g.cj q)
 (hi:∀ o u,g'.cC B o=some u->w'.cell? ⟨B,o,none⟩=some u/\u.oneCell'=true) (hm:∀ es c,g'.cj B=some (es,c)->w'.heap[B]?=some (.map es c)/\km es c)
 (js:∀ b x p,U.live b=some x->g.place b=some p->p.aN ≠ B) (acB:g.res B=false):bp g' U w':=by
 have aM:∀ k o,w.heap[k]?=some o->k ≠ B->w'.heap[k]?=some o:=fun k o hko hn=>by rw [hk k hn (kG.1 hko).1]; exact hko
 exact {
  below:=by
   rw [hle.base,hle.w0]
   exact h.below.trans ⟨hw.1,hw.2.1,hw.2.2.1,hw.2.2.2,fun k hkb=>hk k (by omega) (by have:=h.le; omega)⟩
  le:=by rw [hle.base]; exact Nat.le_trans h.le hw.2.2.2
  cC:=fun q o u hu=>by
   by_cases hq:q=B
   . subst hq; exact hi o u hu
   . rw [nK q o hq] at hu
     rw [FN (hk q hq (h.N4 hu))]; exact h.cC _ _ _ hu
  cj:=fun r es c hr=>by
   by_cases hq:r=B
   . subst hq; exact hm es c hr
   . rw [UK r hq] at hr
     rw [hk r hq (h.Km hr)]; exact h.cj _ _ _ hr
  live:=fun b x hb=>by
   obtain ⟨p,h1,h2,h3⟩:=h.live b x hb
   have Kg:=js b x p hb h1
   refine ⟨p,by rw [ll]; exact h1,by rw [hle.base]; exact h2,h3.frame hle.r (hk _ Kg h3.lt) (fun o=>nK _ _ Kg) (UK _ Kg)⟩
  apart:=fun b b' x x' p p' h1 h2 h3 h4 h5=>by rw [ll] at h3 h4; exact h.apart b b' x x' p p' h1 h2 h3 h4 h5
  res:=fun r hr=>by
   rw [hres] at hr
   obtain ⟨h1,h2⟩:=h.res r hr
   rw [hle.base]
   exact ⟨h1,aM _ _ h2 (fun e=>by subst e; rw [acB] at hr; cases hr)⟩
  fin:=by rw [ll]; exact h.fin }
theorem bp.named {g:Gh} {U:St} {w:World} (h:bp g U w) {b:Nat} {p:Place} {x:Live} (hb:g.place b=some p) (hB:g.base <= p.aN) (hx:lg g w p x)
 (js:∀ b' x' p',b' ≠ b->U.live b'=some x'->g.place b'=some p'->p'.aN ≠ p.aN):bp g (U.set b x) w where
 below:=h.below
 le:=h.le
 cC:=h.cC
 cj:=h.cj
 live:=fun b' x' eT=>by
  simp only [St.set] at eT
  split at eT
  . rename_i e; subst e; cases eT; exact ⟨p,hb,hB,hx⟩
  . exact h.live b' x' eT
 apart:=fun b1 b2 x1 x2 p1 p2 h1 h2 h3 h4 h5=>by
  simp only [St.set] at h1 h2
  by_cases e1:b1=b <;> by_cases e2:b2=b
  . rw [e1,e2]
  . rw [if_neg e2] at h2
    subst e1; rw [hb] at h3; cases h3
    exact absurd h5.symm (js _ _ _ e2 h2 h4)
  . rw [if_neg e1] at h1
    subst e2; rw [hb] at h4; cases h4
    exact absurd h5 (js _ _ _ e1 h1 h3)
  . rw [if_neg e1] at h1; rw [if_neg e2] at h2
    exact h.apart _ _ _ _ _ _ h1 h2 h3 h4 h5
 res:=h.res
 fin:=h.fin
def Gh.n0 (g:Gh) (b:Nat) (p:Place):Gh:={ g with place:=fun y=>if y=b then some p else g.place y }
theorem Gh.jT (g:Gh) (b:Nat) (p:Place):(g.n0 b p).place b=some p:=by simp [Gh.n0]
theorem Gh.ny (g:Gh) {b y:Nat} (p:Place) (h:y ≠ b):(g.n0 b p).place y=g.place y:=by simp [Gh.n0,h]
theorem Gh.A4 {g:Gh} {b:Nat} (p:Place) (h:g.place b=none):Gh.Le g (g.n0 b p) :=
 ⟨rfl,rfl,fun y x hy=>by rw [Gh.ny _ _ (fun e=>by subst e; rw [h] at hy; cases hy)]; exact hy,fun _ _ _ h=>h,fun _ _ h=>h,fun _ h=>h,fun _ _ _=>rfl,fun _ _=>rfl⟩
theorem bp.newName {g:Gh} {U:St} {w:World} (h:bp g U w) (p:Place) (hB:g.base <= p.aN) (js:∀ b' x' p',U.live b'=some x'->g.place b'=some p'->p'.aN ≠ p.aN) :
 ∃ b,U.dw b/\Gh.Le g (g.n0 b p)/\∀ x,lg (g.n0 b p) w p x->bp (g.n0 b p) (U.new b x) w:=by
 obtain ⟨N,hN1,hN2⟩:=h.fin
 have AW:g.place N=none:=hN2 N (gE _)
 have hln:U.live N=none:=by
  cases e:U.live N with
  | none=>rfl
  | some x=>obtain ⟨p,h1,_⟩:=h.live N x e; rw [AW] at h1; cases h1
 refine ⟨N,⟨hln,hN1⟩,Gh.A4 p AW,fun x hx=>?_⟩
 have hle:=Gh.A4 (g:=g) p AW
 have cV:∀ b x,U.live b=some x->b ≠ N:=fun b x hb e=>by subst e; rw [hln] at hb; cases hb
 exact {
  below:=h.below
  le:=h.le
  cC:=h.cC
  cj:=h.cj
  live:=fun b' x' eT=>by
   simp only [St.new] at eT
   split at eT
   . rename_i e; subst e; cases eT; exact ⟨p,Gh.jT _ _ _,hB,hx⟩
   . obtain ⟨p',h1,h2,h3⟩:=h.live b' x' eT
     exact ⟨p',hle.place _ _ h1,h2,h3.frame hle.r rfl (fun _=>rfl) rfl⟩
  apart:=fun b1 b2 x1 x2 p1 p2 h1 h2 h3 h4 h5=>by
   simp only [St.new] at h1 h2
   by_cases e1:b1=N <;> by_cases e2:b2=N
   . rw [e1,e2]
   . rw [if_neg e2] at h2; rw [Gh.ny _ _ e2] at h4
     subst e1; rw [Gh.jT] at h3; cases h3
     exact absurd h5.symm (js _ _ _ h2 h4)
   . rw [if_neg e1] at h1; rw [Gh.ny _ _ e1] at h3
     subst e2; rw [Gh.jT] at h4; cases h4
     exact absurd h5 (js _ _ _ h1 h3)
   . rw [if_neg e1] at h1; rw [if_neg e2] at h2
     rw [Gh.ny _ _ e1] at h3; rw [Gh.ny _ _ e2] at h4
     exact h.apart _ _ _ _ _ _ h1 h2 h3 h4 h5
  res:=h.res
  fin:=⟨N+1,fun n hn=>by
   simp only [St.new,o1] at hn
   obtain ⟨m,hm,rfl⟩:=hn
   rw [hN1 m hm],fun b hb=>by rw [Gh.ny _ _ (by omega)]; exact hN2 b (by omega)⟩ }
theorem bp.grow {g:Gh} {U:St} {w w':World} (h:bp g U w) (hg:w.grownBy w' none):bp g U w':=by
 have hb:∀ k,k < w.heap.size->w'.heap[k]?=w.heap[k]?:=fun k hk=>hg.block k hk (by simp)
 refine h.change w.heap.size h.le (Gh.Le.refl g) rfl rfl ⟨hg.os,hg.tape,hg.output,hg.size⟩ (fun k _ hk=>hb k hk) (fun _ _ _=>rfl) (fun _ _=>rfl) (fun o u hu=>?_) (fun es c hr=>?_) (fun b x p h1 h2=>?_) ?_
 . rw [h.Ak (gE _)] at hu; cases hu
 . rw [h.wS (gE _)] at hr; cases hr
 . obtain ⟨p',k1,_,k3⟩:=h.live b x h1
   rw [h2] at k1; cases k1
   exact Nat.ne_of_lt k3.lt
 . cases e:g.res w.heap.size with
   | false=>rfl
   | true=>have:=(kG.1 (h.res _ e).2).1; omega
theorem ku (w:World):w.grownBy w.drew none:=⟨rfl,rfl,rfl,gE _,fun _ _ _=>rfl⟩
theorem bp.D1 {g:Gh} {U:St} {w:World} (h:bp g U w) {q:Nat} (hq:w.heap.size <= q):g.res q=false:=by
 cases e:g.res q with
 | false=>rfl
 | true=>have:=(kG.1 (h.res _ e).2).1; omega
theorem bp.xp {g:Gh} {U:St} {w:World} (h:bp g U w) {b:Nat} {x:Live} {p:Place} (hb:U.live b=some x) (hp:g.place b=some p):p.aN < w.heap.size:=by
 obtain ⟨p',k1,_,k3⟩:=h.live b x hb
 rw [hp] at k1; cases k1
 exact k3.lt
theorem bp.xH {g:Gh} {U:St} {w:World} (h:bp g U w) {b:Nat} {x:Live} {p:Place} (hb:U.live b=some x) (hp:g.place b=some p):g.res p.aN=false:=by
 cases e:g.res p.aN with
 | false=>rfl
 | true =>
   obtain ⟨p',k1,_,k3⟩:=h.live b x hb
   rw [hp] at k1; cases k1
   exact absurd rfl (k3.Kz (h.res _ e).2)
theorem bp.tL {g:Gh} {U:St} {w:World} (h:bp g U w) (o:Obj) (e:TypeId) (size:Nat) (x:Live)
 (hx:∀ g',Gh.Le g g'->(∀ o,g'.cC w.heap.size o=none)->g'.cj w.heap.size=none->lg g' (w.alloc o) ⟨w.heap.size,e,size⟩ x) :
 ∃ b g',U.dw b/\Gh.Le g g'/\g'.place b=some ⟨w.heap.size,e,size⟩/\bp g' (U.new b x) (w.alloc o):=by
 have hs:=h.grow (w.grownBy_alloc o none)
 obtain ⟨b,h1,h2,h3⟩:=hs.newName ⟨w.heap.size,e,size⟩ h.le (fun b' x' p' k1 k2=>Nat.ne_of_lt (h.xp k1 k2))
 exact ⟨b,_,h1,h2,Gh.jT _ _ _,h3 x (hx _ h2 (fun o=>h.Ak (gE _) o) (h.wS (gE _)))⟩
end Go.Rip
namespace Go.Rip
open Go.RowKit
def St.cG (U:St) (b:Nat) (l:List AV):St:=U.set b (.box l)
def St.ac6 (U:St) (b:Nat) (kv:List AV × List AV):St:=U.set b (.mp kv.1 kv.2)
theorem bp.box {g:Gh} {U:St} {w:World} (h:bp g U w) (b:Nat) (l:List AV) (hb:U.box b=some l):∃ x cur vs rest,g.box b=some x/\g.base <= x.aN/\w.heap[x.aN]?=some (.cells cur x.e (0,0))/\cur.size=x.size/\cur.toList=vs++rest/\aH g l vs /\
 (∀ u ∈ cur.toList,u.oneCell'=true)/\(∀ o,g.cC x.aN o=none):=by
 obtain ⟨y,hy,hyb⟩:=St.wH hb
 obtain ⟨p,h1,h2,hp⟩:=h.live b _ hy
 obtain ⟨cur,vs,rest,h3,h4,h5,h6,h7,h8⟩:=hyb _ _ _ hp
 exact ⟨p,cur,vs,rest,h1,h2,h3,h4,h5,h6,h7,h8⟩
theorem bp.tok {g:Gh} {U:St} {w:World} (h:bp g U w) (τ:Nat) (t:Tok) (ht:U.tok τ=some t):∃ aN c cur,g.tok τ=some (aN,c)/\g.base <= aN/\w.heap[aN]?=some (.cells cur t.e (0,0))/\cur.size=c * t.size/\t.n <= c/\c <= maxLen /\
 (∀ o,t.n * t.size <= o->g.cC aN o=none):=by
 obtain ⟨p,h1,h2,cur,h3,h4,h5,h6,h7⟩:=h.live τ _ (St.kj.1 ht)
 exact ⟨p.aN,p.size,cur,Gh.kj.2 ⟨p,h1,rfl,rfl⟩,h2,h3,h4,h5,h6,h7⟩
theorem bp.mp {g:Gh} {U:St} {w:World} (h:bp g U w) (m:Nat) (kv:List AV × List AV) (hm:U.mp m=some kv):∃ r es clock,g.mp m=some r/\g.base <= r/\w.heap[r]?=some (.map es clock)/\km es clock/\wD g kv.1 kv.2 es/\g.cj r=none:=by
 obtain ⟨p,h1,h2,es,clock,h3,h4,h5,h6⟩:=h.live m _ (St.pj.1 hm)
 exact ⟨p.aN,es,clock,Gh.pj.2 ⟨p,h1,rfl⟩,h2,h3,h4,h5,h6⟩
theorem bp.rewrite {g:Gh} {U:St} {w w':World} (h:bp g U w) {b:Nat} {x x':Live} {p:Place} (hb:U.live b=some x) (hp:g.place b=some p)
 (hw:w'.os=w.os/\w'.tape=w.tape/\w'.output=w.output/\w.heap.size <= w'.heap.size) (hk:∀ k,k ≠ p.aN->k < w.heap.size->w'.heap[k]?=w.heap[k]?)
 (hi:∀ o,g.cC p.aN o=none) (hm:g.cj p.aN=none) (hx:lg g w' p x'):bp g (U.set b x') w':=by
 obtain ⟨p',k1,k2,k3⟩:=h.live b x hb
 rw [hp] at k1; cases k1
 have js:∀ b' x' p',b' ≠ b->U.live b'=some x'->g.place b'=some p'->p'.aN ≠ p.aN:=fun b' x' p' cV h1 h2 e=>cV (h.apart _ _ _ _ _ _ h1 hb h2 hp e)
 have hd:∀ b' x' p',(U.del b).live b'=some x'->g.place b'=some p'->p'.aN ≠ p.aN:=fun b' x' p' h1 h2=>by
  simp only [St.del] at h1
  split at h1
  . cases h1
  . rename_i e; exact js _ _ _ e h1 h2
 have h1:=(h.weaken (St.vC U b)).change p.aN k2 (Gh.Le.refl g) rfl rfl hw hk (fun _ _ _=>rfl) (fun _ _=>rfl) (fun o u hu=>by rw [hi] at hu; cases hu) (fun es c hr=>by rw [hm] at hr; cases hr) hd (h.xH hb hp)
 have h2:=h1.named hp k2 hx (fun b' x' p' _ q1 q2=>hd b' x' p' q1 q2)
 have e:(U.del b).set b x'=U.set b x':=by
  simp only [St.del,St.set,St.mk.injEq,and_true]
  funext y
  split <;> rfl
 rw [<- e]; exact h2
theorem bp.db {g:Gh} {U:St} {w:World} (h:bp g U w) (e:TypeId) (cur:Array Value) (vs rest:List Value) (l:List AV) (hc:cur.toList=vs++rest) (hl:aH g l vs) (h1:∀ u ∈ cur.toList,u.oneCell'=true) :
 ∃ b g',U.dw b/\Gh.Le g g'/\g'.box b=some ⟨w.heap.size,e,cur.size⟩/\bp g' (U.new b (.box l)) (w.alloc (.cells cur e)) :=
 h.tL (.cells cur e) e cur.size (.box l) fun g' hle hi hm=>⟨cur,vs,rest,heap_alloc_new w _,rfl,hc,hl.mono hle,h1,hi⟩
theorem bp.Oz {g:Gh} {U:St} {w:World} (h:bp g U w) (e:TypeId) (cur:Array Value) (vs rest:List Value) (hc:cur.toList=vs++rest) (h1:∀ u ∈ cur.toList,u.oneCell'=true) :
 ∃ g',Gh.Le g g'/\lV g' w.heap.size 0 vs/\(∀ o,vs.length <= o->g'.cC w.heap.size o=none)/\g'.place=g.place/\bp g' U (w.alloc (.cells cur e)):=by
 let g':Gh:={ g with cC:=fun aN o=>if aN=w.heap.size then vs[o]? else g.cC aN o }
 have sj:∀ o,g'.cC w.heap.size o=vs[o]?:=fun o=>by show (if w.heap.size=w.heap.size then _ else _)=_; rw [if_pos rfl]
 have hold:∀ aN o,aN ≠ w.heap.size->g'.cC aN o=g.cC aN o:=fun aN o hx=>by show (if aN=w.heap.size then _ else _)=_; rw [if_neg hx]
 have hle:Gh.Le g g':=⟨rfl,rfl,fun _ _ h=>h,fun aN o u hu=>by
  rw [hold _ _ (fun e=>by subst e; rw [h.Ak (gE _)] at hu; cases hu)]; exact hu,fun _ _ h=>h,fun _ h=>h,fun q o hq=>hold _ _ (by have:=h.le; omega),fun _ _=>rfl⟩
 have hg:=w.grownBy_alloc (.cells cur e) none
 refine ⟨g',hle,fun i u hu=>by rw [dI,sj]; exact hu,fun o ho=>by rw [sj]; simpa using ho,rfl,?_⟩
 refine h.change w.heap.size h.le hle rfl rfl ⟨hg.os,hg.tape,hg.output,hg.size⟩ (fun k _ hk=>hg.block k hk (by simp)) (fun q o hq=>hold q o hq) (fun _ _=>rfl) (fun o u hu=>?_) (fun es c hr=>?_) (fun b x p k1 k2=>Nat.ne_of_lt (h.xp k1 k2)) (h.D1 (gE _))
 . rw [sj] at hu
   have hcu:cur[o]?=some u:=by
    rw [<- lK,hc,va (by
     rcases gr o vs.length with h | h
     . exact h
     . simp [zE h] at hu)]
    exact hu
   exact ⟨by rw [cell_of_row _ _ _ cur e (0,0) (heap_alloc_new w _)]; exact hcu,h1 u (fl (by rw [lK]; exact hcu))⟩
 . have:g.cj w.heap.size=some (es,c):=hr
   rw [h.wS (gE _)] at this; cases this
theorem bp.pv {g:Gh} {U:St} {w:World} (h:bp g U w) {r:Nat} {c:Array Value} {e:TypeId} {f:Nat × Nat} (hh:w.heap[r]?=some (.cells c e f)):g.cj r=none:=by
 cases e:g.cj r with
 | none=>rfl
 | some x=>have:=(h.cj r x.1 x.2 e).1; rw [hh] at this; cases this
theorem bp.setRow {g:Gh} {U:St} {w:World} (h:bp g U w) {b:Nat} {l l':List AV} {x:Place} (hb:U.box b=some l) (hx:g.box b=some x)
 (cur:Array Value) (vs rest:List Value) (eH:cur.size=x.size) (hc:cur.toList=vs++rest) (hl:aH g l' vs) (h1:∀ u ∈ cur.toList,u.oneCell'=true) :
 bp g (U.cG b l') (w.setRow x.aN cur):=by
 obtain ⟨x',Y9,vs0,acZ,k1,k2,k3,k4,k5,k6,k7,k8⟩:=h.box b l hb
 rw [hx] at k1; cases k1
 obtain ⟨y,hy,_⟩:=St.wH hb
 exact h.rewrite hy hx ⟨rfl,rfl,rfl,by simp⟩ (fun k hk _=>setRow_other _ _ _ _ hk) k8 (h.pv k3) ⟨cur,vs,rest,setRow_heap w x.aN Y9 cur x.e (0,0) k3,eH,hc,hl,h1,k8⟩
theorem bp.acX {g:Gh} {U:St} {w:World} (h:bp g U w) {b:Nat} {l:List AV} (hb:U.box b=some l):bp g (U.cG b l) w:=by
 obtain ⟨y,hy,hyb⟩:=St.wH hb
 obtain ⟨p,h1,h2,hp⟩:=h.live b _ hy
 obtain ⟨cur,vs,rest,h3,h4,h5,h6,h7,h8⟩:=hyb _ _ _ hp
 exact h.rewrite hy h1 ⟨rfl,rfl,rfl,gE _⟩ (fun _ _ _=>rfl) h8 (h.pv h3) ⟨cur,vs,rest,h3,h4,h5,h6,h7,h8⟩
theorem DQ {cur cur':Array Value} {a:Nat} {news:List Value} (ha:a <= cur.size) (yh:cur'.toList=cur.toList.take a++news++cur.toList.drop (a+news.length)) (o:Nat) :
 cur'[o]?=if o < a then cur[o]? else if o < a+news.length then news[o - a]? else cur[o]?:=by
 rw [<- lK,yh,kI]
 have hl:(cur.toList.take a).length=a:=by simp; omega
 by_cases h1:o < a
 . rw [if_pos h1,va (by omega),List.getElem?_take,if_pos h1,lK]
 . rw [if_neg h1,List.getElem?_append_right (by omega),hl]
   by_cases h2:o < a+news.length
   . rw [if_pos h2,va (by omega)]
   . rw [if_neg h2,List.getElem?_append_right (by omega),List.getElem?_drop,lK]
     congr 1; omega
theorem bp.aaV {g:Gh} {U:St} {w:World} (h:bp g U w) {τ:Nat} {t:Tok} {aN c:Nat} (ht:U.tok τ=some t) (hg:g.tok τ=some (aN,c))
 (cur cur':Array Value) (news:List Value) (m:Nat) (Lq:w.heap[aN]?=some (.cells cur t.e (0,0))) (hlen:news.length=m * t.size) (oX:t.n+m <= c)
 (yh:cur'.toList=cur.toList.take (t.n * t.size)++news++cur.toList.drop (t.n * t.size+news.length)) (h1:∀ u ∈ news,u.oneCell'=true) :
 ∃ Bj g',(U.del τ).dw Bj/\Gh.Le g g'/\g'.tok Bj=some (aN,c)/\lV g' aN (t.n * t.size) news/\bp g' ((U.del τ).new Bj (.tok ⟨t.n+m,t.e,t.size⟩)) (w.setRow aN cur'):=by
 obtain ⟨p,hp,Kg,hpc⟩:=Gh.kj.1 hg
 dsimp only at Kg hpc
 subst Kg hpc
 obtain ⟨p',k1,k2,Y9,k3,k4,k5,k6,k7⟩:=h.live τ _ (St.kj.1 ht)
 rw [hp] at k1; cases k1
 rw [Lq] at k3; cases k3
 have tw:(t.n+m) * t.size <= cur.size:=by rw [k4]; exact Nat.mul_le_mul_right _ oX
 have EG:(t.n+m) * t.size=t.n * t.size+news.length:=by rw [hlen,Nat.add_mul]
 have eH:cur'.size=cur.size:=by
  have:=congrArg List.length yh
  simp only [sr,cZ,List.length_take,List.length_drop] at this
  omega
 let g':Gh:={ g with cC:=fun q o=>if q=p.aN/\t.n * t.size <= o/\o < t.n * t.size+news.length then news[o - t.n * t.size]? else g.cC q o }
 have nK:∀ q o,q ≠ p.aN->g'.cC q o=g.cC q o:=fun q o hq=>by
  show (if _ then _ else _)=_
  rw [if_neg (fun e=>hq e.1)]
 have hle:Gh.Le g g':=⟨rfl,rfl,fun _ _ h=>h,fun q o u hu=>by
  show (if _ then _ else _)=_
  rw [if_neg (fun e=>by obtain ⟨rfl,e2,_⟩:=e; rw [k7 o e2] at hu; cases hu)]; exact hu,fun _ _ h=>h,fun _ h=>h,fun q o hq=>nK _ _ (by omega),fun _ _=>rfl⟩
 have wQ:=setRow_heap w p.aN cur cur' t.e (0,0) Lq
 have si:=fun o=>DQ (cur:=cur) (cur':=cur') (a:=t.n * t.size) (news:=news) (by omega) yh o
 have js:∀ b' x' p',(U.del τ).live b'=some x'->g.place b'=some p'->p'.aN ≠ p.aN:=fun b' x' p' h1 h2 e=>by
  simp only [St.del] at h1
  split at h1
  . cases h1
  . rename_i ne; exact ne (h.apart _ _ _ _ _ _ h1 (St.kj.1 ht) h2 hp e)
 have hs:=(h.weaken (St.vC U τ)).change (w':=w.setRow p.aN cur') p.aN k2 hle rfl rfl ⟨rfl,rfl,rfl,by simp⟩ (fun k hk _=>setRow_other _ _ _ _ hk) nK (fun _ _=>rfl) (fun o u hu=>by
  rw [cell_of_row _ _ _ cur' t.e (0,0) wQ,si]
  have oR:(if p.aN=p.aN/\t.n * t.size <= o/\o < t.n * t.size+news.length then news[o - t.n * t.size]? else g.cC p.aN o)=some u:=hu
  by_cases ho:o < t.n * t.size
  . rw [if_pos ho]
    rw [if_neg (by omega)] at oR
    have:=h.cC _ _ _ oR
    rw [cell_of_row _ _ _ cur t.e (0,0) Lq] at this
    exact this
  . rw [if_neg ho]
    by_cases UT:o < t.n * t.size+news.length
    . rw [if_pos UT]
      rw [if_pos ⟨rfl,by omega,UT⟩] at oR
      exact ⟨oR,h1 u (fl oR)⟩
    . rw [if_neg (by omega)] at oR
      rw [k7 o (by omega)] at oR; cases oR) (fun es c hr=>by
  have hr:g.cj p.aN=some (es,c):=hr
  rw [h.pv Lq] at hr; cases hr) js (h.xH (St.kj.1 ht) hp)
 obtain ⟨Bj,f1,f2,f3⟩:=hs.newName p k2 js
 refine ⟨Bj,_,f1,hle.trans f2,Gh.kj.2 ⟨p,Gh.jT _ _ _,rfl,rfl⟩,fun i u hu=>?_,f3 _ ⟨cur',wQ,by rw [eH]; exact k4,oX,k6,fun o ho=>?_⟩⟩
 . have hi:i < news.length:=by
    rcases gr i news.length with h | h
    . exact h
    . simp [zE h] at hu
   show (if _ then _ else _)=_
   rw [if_pos ⟨rfl,by omega,by omega⟩,Nat.add_sub_cancel_left]; exact hu
 . have ho:(t.n+m) * t.size <= o:=ho
   show (if _ then _ else _)=_
   rw [if_neg (by omega)]; exact k7 o (by omega)
theorem bp.rename {g:Gh} {U:St} {w:World} (h:bp g U w) {b:Nat} {x:Live} {p:Place} (hb:U.live b=some x) (hp:g.place b=some p) :
 ∃ b' g',(U.del b).dw b'/\Gh.Le g g'/\g'.place b'=some p/\bp g' ((U.del b).new b' x) w:=by
 obtain ⟨p',k1,k2,k3⟩:=h.live b x hb
 rw [hp] at k1; cases k1
 obtain ⟨b',f1,f2,f3⟩:=(h.weaken (St.vC U b)).newName p k2 (fun b' x' p' h1 h2 e=>by
  simp only [St.del] at h1
  split at h1
  . cases h1
  . rename_i ne; exact ne (h.apart _ _ _ _ _ _ h1 hb h2 hp e))
 exact ⟨b',_,f1,f2,Gh.jT _ _ _,f3 x (k3.frame f2.r rfl (fun _=>rfl) rfl)⟩
theorem bp.nv {g:Gh} {U:St} {w:World} (h:bp g U w) (e:TypeId) (size n c:Nat) (cur:Array Value) (vs rest:List Value) (hc:cur.toList=vs++rest) (h1:∀ u ∈ cur.toList,u.oneCell'=true)
 (zb:vs.length=n * size) (tw:cur.size=c * size) (EF:n <= c) (vM:c <= maxLen) :
 ∃ τ g',U.dw τ/\Gh.Le g g'/\g'.tok τ=some (w.heap.size,c)/\lV g' w.heap.size 0 vs/\bp g' (U.new τ (.tok ⟨n,e,size⟩)) (w.alloc (.cells cur e)):=by
 obtain ⟨g1,Hc,nK,js,ll,hs⟩:=h.Oz e cur vs rest hc h1
 obtain ⟨τ,f1,f2,f3⟩:=hs.newName ⟨w.heap.size,e,c⟩ (by rw [Hc.base]; exact h.le) (fun b' x' p' k1 k2=>by rw [ll] at k2; exact Nat.ne_of_lt (h.xp k1 k2))
 exact ⟨τ,_,f1,Hc.trans f2,Gh.kj.2 ⟨_,Gh.jT _ _ _,rfl,rfl⟩,nK,f3 _ ⟨cur,heap_alloc_new w _,tw,EF,vM,fun o ho=>js o (by rw [zb]; exact ho)⟩⟩
theorem bp.O8 {g:Gh} {U:St} {w:World} (h:bp g U w) {m r:Nat} {kv kv':List AV × List AV} {es vF:Array MapEntry} {clock vB:Nat} (hm:U.mp m=some kv) (hg:g.mp m=some r) (hh:w.heap[r]?=some (.map es clock))
 (h1:wD g kv'.1 kv'.2 vF) (h2:km vF vB) :
 bp g (U.ac6 m kv') { w with heap:=w.heap.setIfInBounds r (Obj.map vF vB) }:=by
 obtain ⟨p,hp,rfl⟩:=Gh.pj.1 hg
 obtain ⟨p',k1,k2,es0,cl0,k3,k4,k5,k6⟩:=h.live m _ (St.pj.1 hm)
 rw [hp] at k1; cases k1
 have aM:=(kG.1 hh).1
 have cV:∀ k,k ≠ p.aN->(w.heap.setIfInBounds p.aN (Obj.map vF vB))[k]?=w.heap[k]?:=fun k hk=>Array.getElem?_setIfInBounds_ne (Ne.symm hk)
 have sj:(w.heap.setIfInBounds p.aN (Obj.map vF vB))[p.aN]?=some (Obj.map vF vB):=by simp [aM]
 exact h.rewrite (St.pj.1 hm) hp ⟨rfl,rfl,rfl,by simp⟩ (fun k hk _=>cV k hk) (fun o=>by
  cases e:g.cC p.aN o with
  | none=>rfl
  | some u=>have:=(h.cC _ _ _ e).1; simp [World.cell?,hh] at this) k6 ⟨vF,vB,sj,h2,h1,k6⟩
theorem bp.shut {g:Gh} {U:St} {w:World} (h:bp g U w) {r:Nat} (hr:g.res r=true):bp { g with res:=fun x=>if x=r then false else g.res x } U { w with heap:=w.heap.setIfInBounds r (Obj.deferred none) }:=by
 obtain ⟨k2,hh⟩:=h.res r hr
 have cV:∀ k,k ≠ r->(w.heap.setIfInBounds r (Obj.deferred none))[k]?=w.heap[k]?:=fun k hk=>Array.getElem?_setIfInBounds_ne (Ne.symm hk)
 have hl:Gh.tg g { g with res:=fun x=>if x=r then false else g.res x }:=⟨fun _ _ h=>h,fun _ _ _ h=>h,fun _ _ h=>h⟩
 exact {
  below:=h.below.trans ⟨rfl,rfl,rfl,by simp,fun k hk=>cV k (by have:=h.le; omega)⟩
  le:=by simpa using h.le
  cC:=fun aN o u hi=>by
   have ky:=h.cC _ _ _ hi
   have:World.cell? { w with heap:=w.heap.setIfInBounds r (Obj.deferred none) } ⟨aN,o,none⟩=w.cell? ⟨aN,o,none⟩:=by
    simp only [World.cell?]
    rw [cV aN (fun e=>by subst e; simp [World.cell?,hh] at ky)]
   rw [this]; exact ky
  cj:=fun r' es c hr=>by
   obtain ⟨h1,h2⟩:=h.cj r' es c hr
   refine ⟨?_,h2⟩
   show (w.heap.setIfInBounds r (Obj.deferred none))[r']?=_
   rw [cV r' (fun e=>by subst e; rw [hh] at h1; cases h1)]; exact h1
  live:=fun b x hb=>by
   obtain ⟨p,h1,h2,h3⟩:=h.live b x hb
   exact ⟨p,h1,h2,h3.frame hl (cV _ (h3.Kz hh)) (fun _=>rfl) rfl⟩
  apart:=h.apart
  res:=fun r' tG=>by
   have tG:(if r'=r then false else g.res r')=true:=tG
   split at tG
   . cases tG
   . rename_i e
     obtain ⟨q1,q2⟩:=h.res r' tG
     exact ⟨q1,by show (w.heap.setIfInBounds r (Obj.deferred none))[r']?=_; rw [cV r' e]; exact q2⟩
  fin:=h.fin }
theorem bp.WD {g:Gh} {U:St} {w:World} (h:bp g U w):Gh.Le g { g with res:=fun x=>if x=w.heap.size then true else g.res x }/\bp { g with res:=fun x=>if x=w.heap.size then true else g.res x } U (w.alloc (.deferred (some []))):=by
 have hl:Gh.tg g { g with res:=fun x=>if x=w.heap.size then true else g.res x }:=⟨fun _ _ h=>h,fun _ _ _ h=>h,fun _ _ h=>h⟩
 refine ⟨⟨rfl,rfl,fun _ _ h=>h,fun _ _ _ h=>h,fun _ _ h=>h,fun b hb=>by show (if _ then _ else _)=_; split <;> simp_all,fun _ _ _=>rfl,fun _ _=>rfl⟩,?_⟩
 have hs:=h.grow (w.grownBy_alloc (.deferred (some [])) none)
 exact {
  below:=hs.below
  le:=hs.le
  cC:=hs.cC
  cj:=hs.cj
  live:=fun b x hb=>by
   obtain ⟨p,h1,h2,h3⟩:=hs.live b x hb
   exact ⟨p,h1,h2,h3.frame hl rfl (fun _=>rfl) rfl⟩
  apart:=hs.apart
  res:=fun r hr=>by
   have hr:(if r=w.heap.size then true else g.res r)=true:=hr
   split at hr
   . rename_i e; subst e; exact ⟨h.le,heap_alloc_new w _⟩
   . exact hs.res r hr
  fin:=hs.fin }
end Go.Rip
namespace Go.Rip
open Go.RowKit
def lI:Value->Option AV
 | .bool b=>some (.bool b)
 | .int k n=>some (.int k n)
 | .string s=>some (.str s.data.toList)
 | .pointer none=>some .bU
 | .slice none 0 0=>some .aA
 | .map none=>some .lr
 | .nilFunc=>some .ez
 | .nilIface=>some .dv
 | _=>none
def R4:Option (List AV)->AV
 | some l=>.agg l
 | none=>.any
def En:Value->AV
 | .agg cs=>R4 (cs.toList.mapM lI)
 | .func fn f c=>if f.isEmpty && c.isEmpty then .func fn [] [] else .any
 | .tuple vs=>if vs.isEmpty then .aG [] else .any
 | v=>(lI v).getD .any
def Dx:TypeDesc->Bool
 | .struct _ | .array _ _=>true
 | _=>false
def nO (P:Program) (t:TypeId):Option (Bool × Nat) :=
 match P.info? t,P.underlying t with
 | some i,some d=>some (Dx d,i.size)
 | _,_=>none
def pC (P:Program) (t:TypeId):Option (List AV):=((P.info? t).bind (·.zero)).bind fun z=>z.cells.toList.mapM lI
def fj (P:Program) (t:TypeId):Option (TypeId × Nat) :=
 match P.underlying t with
 | some (.slice e)=>match P.info? e with
   | some i=>match i.zero with
     | some z=>if z.cells.size=i.size/\0 < i.size/\i.bytes <= 32768/\z.cells.all (·.oneCell') then some (e,i.size) else none
     | none=>none
   | none=>none
 | _=>none
def yO (P:Program) (s:TypeId) (f:Nat):Option Nat :=
 match P.underlying s with
 | some (.struct fields)=>match fields[f]? with
   | some x=>if P.cellsOf x.type ≠ 0 then some x.offset else none
   | none=>none
 | _=>none
def Ay (P:Program) (t:TypeId):Option (List (Nat × Nat)) :=
 match P.underlying t with
 | some (.struct fields)=>if fields.all (fun f=>(P.info? f.type).isSome) then some (fields.toList.map fun f=>(f.offset,P.cellsOf f.type)) else none
 | _=>none
def gj (P:Program) (f:FuncId):Bool :=
 match P.funcs[f]? with
 | some fn=>fn.body.isSome && !(fn.name == "runtime.NumGoroutine")
 | none=>false
structure cT where
 P:Program
 yT:Nat->AV
 fixed:Nat->Option (Array Value):=fun _=>none
def ix (C:cT) (g:Gh):Prop:=(∀ i,aE g (C.yT i) (.pointer (some ⟨i,0,none⟩)))/\∀ i cs,C.fixed i=some cs->i < g.base/\∃ t fr,g.w0.heap[i]?=some (.cells cs t fr)
theorem ix.mono {C:cT} {g g':Gh} (h:ix C g) (hl:Gh.Le g g'):ix C g':=⟨fun i=>(h.1 i).mono hl,fun i cs hi=>by rw [hl.base,hl.w0]; exact h.2 i cs hi⟩
structure Env where
 get:Nat->AV
def Env.put (ρ:Env) (d:Nat) (v:AV):Env:=⟨fun t=>if t=d then v else ρ.get t⟩
def Env.eB (ρ:Env):Option Nat->AV->Env
 | some d,v=>ρ.put d v
 | none,_=>ρ
def Env.ev (C:cT) (ρ:Env):Operand->AV
 | .tmp t=>ρ.get t
 | .const v=>En v
 | .global g=>C.yT g
 | .func f=>.func (.func f) [] []
def gM (g:Gh) (ρ:Env) (tmps:Array Value):Prop:=∀ t,aE g (ρ.get t) (tmps.getD t undef)
theorem gM.mono {g g':Gh} (h:Gh.Le g g') {ρ:Env} {tmps:Array Value} (hr:gM g ρ tmps):gM g' ρ tmps:=fun t=>(hr t).mono h
theorem gM.put {g:Gh} {ρ:Env} {tmps:Array Value} (hr:gM g ρ tmps) {d:Nat} {x:AV} {v:Value} (hd:d < tmps.size) (hx:aE g x v):gM g (ρ.put d x) (tmps.setIfInBounds d v):=fun t=>by
 simp only [Env.put]
 by_cases ht:t=d
 . subst ht
   rw [if_pos rfl]
   simpa [Array.getD,hd] using hx
 . rw [if_neg ht]
   have:=hr t
   simp only [Array.getD_eq_getD_getElem?] at this ⊢
   rw [Array.getElem?_setIfInBounds_ne (Ne.symm ht)]
   exact this
theorem zr {g:Gh} {v:Value} {x:AV} (h:lI v=some x):aE g x v/\v.oneCell'=true:=by
 unfold lI at h
 split at h <;> first
  | (cases h; simp [aE,Value.oneCell']; done)
  | cases h
theorem eJ {g:Gh}:∀ {vs:List Value} {l:List AV},vs.mapM lI=some l->aH g l vs/\∀ u ∈ vs,u.oneCell'=true
 | [],l,h=>by
   simp at h; subst h; simp [aH]
 | v::vs,l,h=>by
   simp only [List.mapM_cons,bind,Option.bind_eq_some_iff,pure,iW] at h
   obtain ⟨x,hx,l',ED,rfl⟩:=h
   obtain ⟨h1,h2⟩:=zr (g:=g) hx
   obtain ⟨h3,h4⟩:=eJ (g:=g) ED
   refine ⟨by simp only [aH]; exact ⟨v,vs,rfl,h1,h3⟩,fun u hu=>?_⟩
   simp only [cF] at hu
   rcases hu with rfl | hu
   . exact h2
   . exact h4 u hu
theorem Mq {g:Gh} (v:Value):aE g ((lI v).getD .any) v:=by
 cases h:lI v with
 | none=>simp only [Option.getD_none,aE]
 | some x=>exact (zr h).1
theorem DE {g:Gh} (v:Value):aE g (En v) v:=by
 cases v with
 | agg cs =>
   simp only [En]
   cases h:cs.toList.mapM lI with
   | none=>simp only [R4,aE]
   | some l=>simp only [R4,aE]; exact ⟨cs.toList,by simp,(eJ (g:=g) h).2,(eJ h).1⟩
 | func fn f c =>
   simp only [En]
   split
   . rename_i h
     simp only [bX,Array.isEmpty_iff] at h
     obtain ⟨rfl,rfl⟩:=h
     simp only [aE]; exact ⟨[],[],rfl,by simp [aH],by simp [aH]⟩
   . simp only [aE]
 | tuple vs =>
   simp only [En]
   split
   . rename_i h
     simp only [Array.isEmpty_iff] at h
     subst h
     simp only [aE]; exact ⟨[],rfl,by simp [aH]⟩
   . simp only [aE]
 | _=>simp only [En]; exact Mq _
theorem tm {C:cT} {g:Gh} (hG:ix C g) {ρ:Env} {a:Act} (hr:gM g ρ a.tmps) (x:Operand):aE g (ρ.ev C x) (a.eval x):=by
 cases x with
 | tmp t=>exact hr t
 | const v=>exact DE v
 | global i=>exact hG.1 i
 | func f=>simp only [Env.ev,Act.eval,aE]; exact ⟨[],[],rfl,by simp [aH],by simp [aH]⟩
inductive NV where
 | box
 | tok (n:Nat) (l:List AV)
 | ms (n jq:Nat) (e:TypeId)
 | mp
 | it
def NV.at (b:Nat):NV->AV
 | .box=>.box b 0
 | .tok n l=>.vec n (.own b) l
 | .ms n jq e=>.ms b 0 n jq e
 | .mp=>.mp b
 | .it=>.it b
inductive ay where
 | val (v:AV)
 | ir (v:AV) (b:Nat) (x:Live)
 | new (k:NV) (del:Option Nat) (x:Live)
 | lh (b:Nat) (l:List (AV × Live))
 | enter (f:FuncId) (args:List AV)
 | yield (l:Nat) (args:List AV)
 | panic (v:AV)
 | cond (p:Prop) [d:Decidable p] (r:ay)
 | bad
abbrev ay.db (l:List AV):ay:=.new .box none (.box l)
abbrev ay.nv (n:Nat) (l:List AV) (del:Option Nat) (t:Tok):ay:=.new (.tok n l) del (.tok t)
abbrev ay.oE (n jq:Nat) (e:TypeId) (del:Option Nat) (l:List AV):ay:=.new (.ms n jq e) del (.box l)
abbrev ay.xl:ay:=.new .mp none (.mp [] [])
def St.sh (U:St):Option Nat->St
 | some b=>U.del b
 | none=>U
def ay.Fits (C:cT) (g:Gh) (U:St):ay->Result Next->Prop
 | .val v,res=>∃ u w' g',(res=.ok (.value u) w'\/(res=.ok .skip w'/\u=undef))/\Gh.Le g g'/\bp g' U w'/\aE g' v u
 | .ir v b x,res=>∃ u w' g',(res=.ok (.value u) w'\/(res=.ok .skip w'/\u=undef))/\Gh.Le g g'/\bp g' (U.set b x) w'/\aE g' v u
 | .new k del x,res=>∃ u w' g' b,res=.ok (.value u) w'/\(U.sh del).dw b/\Gh.Le g g'/\bp g' ((U.sh del).new b x) w'/\aE g' (k.at b) u
 | .lh b l,res=>∃ u w' g' v x,res=.ok (.value u) w'/\(v,x) ∈ l/\Gh.Le g g'/\bp g' (U.set b x) w'/\aE g' v u
 | .enter f args,res=>∃ vs w',res=.ok (.enter f (List.toArray vs)) w'/\bp g U w'/\aH g args vs
 | .yield o args,res=>∃ vs x w w',g.place o=some x/\res=(Instr.yield x.aN (List.toArray vs)).run C.P w/\w'=w/\bp g U w/\aH g args vs
 | .panic v,res=>∃ u w',res=.halt (.panic u) w'/\bp g U w'/\aE g v u
 | @ay.cond p _ r,res=>p->r.Fits C g U res
 | .bad,_=>True
theorem a8 {C:cT} {g:Gh} {U:St} {w:World} {v:AV} {u:Value} (h:bp g U w) (hr:aE g v u):ay.Fits C g U (.val v) (.ok (.value u) w) :=
 ⟨u,w,g,.inl rfl,Gh.Le.refl g,h,hr⟩
def uf (n:Int):Prop:=-9223372036854775808 <= n/\n <= 9223372036854775807
instance (n:Int):Decidable (uf n):=inferInstanceAs (Decidable (_/\_))
theorem x8 {n:Int} (h:uf n):IntKind.i64.wrap n=n:=by
 obtain ⟨h1,h2⟩:=h
 have e:IntKind.i64.wrap n=if n % 18446744073709551616 >= 9223372036854775808 then n % 18446744073709551616 - 18446744073709551616 else n % 18446744073709551616:=by
  simp [IntKind.wrap,IntKind.bits,IntKind.signed]
 rw [e]
 split <;> omega
def vX (P:Program) (t:TypeId):Bool:=match P.underlying t with | some .bool=>true | _=>false
def kz (P:Program) (t:TypeId):Bool:=match P.underlying t with | some (.interface _)=>true | _=>false
def ml (P:Program) (t:TypeId):Bool:=match P.underlying t with | some (.pointer _)=>true | _=>false
def pH (P:Program) (t:TypeId):Bool:=match P.underlying t with | some (.slice _)=>true | _=>false
def iP (k:IntKind) (n:Int):ay :=
 match k with
 | .i64=>.cond (uf n) (.val (.int .i64 n))
 | k=>.val (.int k (k.wrap n))
inductive FK where
 | i
 | s
 | b
def o7:List FK->List AV->List AV->Option Bool
 | [],[],[]=>some true
 | .i::ks,.int k a::xs,.int k' b::ys=>if k=k' then (o7 ks xs ys).map fun r=>(a == b) && r else none
 | .s::ks,.str a::xs,.str b::ys=>(o7 ks xs ys).map fun r=>(a == b) && r
 | .b::ks,.bool a::xs,.bool b::ys=>(o7 ks xs ys).map fun r=>(a == b) && r
 | _,_,_=>none
def Nl (P:Program) (f:Field) (i:Nat):Option FK :=
 if f.offset=i/\f.name ≠ "_" then
  match P.underlying f.type with
  | some .bool=>some .b
  | some (.int _)=>some .i
  | some .string=>some .s
  | _=>none
 else none
def vG (P:Program):List Field->Nat->Option (List FK)
 | [],_=>some []
 | f::fs,i=>match Nl P f i,vG P fs (i+1) with
   | some k,some ks=>some (k::ks)
   | _,_=>none
def Li (P:Program) (t:TypeId):Option (List FK) :=
 match P.underlying t with
 | some (.struct fields)=>if P.stoodInHeld t=false/\P.eqGuardType P.depth t=false then vG P fields.toList 0 else none
 | _=>none
def J1 (P:Program) (t:TypeId) (a b:List AV):Option Bool :=
 match Li P t with
 | some ks=>o7 ks a b
 | none=>none
def xW (f:Bool->AV):Option Bool->ay
 | some r=>.val (f r)
 | none=>.bad
def K4 (P:Program) (op:BinOp) (t:TypeId) (x y:AV):ay :=
 match op,x,y with
 | .add,.int k a,.int k' b=>if k=k' then iP k (a+b) else .bad
 | .sub,.int k a,.int k' b=>if k=k' then iP k (a - b) else .bad
 | .mul,.int k a,.int k' b=>if k=k' then iP k (a * b) else .bad
 | .quo,.int k a,.int k' b=>if k=k' then .cond (b ≠ 0) (iP k (a.tdiv b)) else .bad
 | .rem,.int k a,.int k' b=>if k=k' then .cond (b ≠ 0) (.val (.int k (a.tmod b))) else .bad
 | .and,.int k a,.int k' b=>if k=k' then .val (.int k (k.wrap (BitVec.ofInt k.bits a &&& BitVec.ofInt k.bits b).toNat)) else .bad
 | .or,.int k a,.int k' b=>if k=k' then .val (.int k (k.wrap (BitVec.ofInt k.bits a ||| BitVec.ofInt k.bits b).toNat)) else .bad
 | .eql,.int k a,.int k' b=>if k=k' then .val (.bool (a == b)) else .bad
 | .neq,.int k a,.int k' b=>if k=k' then .val (.bool (a != b)) else .bad
 | .lss,.int k a,.int k' b=>if k=k' then .val (.bool (decide (a < b))) else .bad
 | .leq,.int k a,.int k' b=>if k=k' then .val (.bool (decide (a <= b))) else .bad
 | .gtr,.int k a,.int k' b=>if k=k' then .val (.bool (decide (a > b))) else .bad
 | .geq,.int k a,.int k' b=>if k=k' then .val (.bool (decide (a >= b))) else .bad
 | .eql,.str a,.str b=>.val (.bool (a == b))
 | .neq,.str a,.str b=>.val (.bool (a != b))
 | .add,.str a,.str b=>.cond (a.length+b.length <= 4294967296) (.val (.str (a++b)))
 | .eql,.bool a,.bool b=>if vX P t=true then .val (.bool (a == b)) else .bad
 | .neq,.bool a,.bool b=>if vX P t=true then .val (.bool (a != b)) else .bad
 | .eql,.agg a,.agg b=>xW .bool (J1 P t a b)
 | .neq,.agg a,.agg b=>xW (fun r=>.bool (!r)) (J1 P t a b)
 | .eql,.iface _ _,.dv=>if kz P t=true then .val (.bool false) else .bad
 | .neq,.iface _ _,.dv=>if kz P t=true then .val (.bool true) else .bad
 | .eql,.bU,.bU=>if ml P t=true then .val (.bool true) else .bad
 | .eql,.box _ _,.bU=>if ml P t=true then .val (.bool false) else .bad
 | .neq,.bU,.bU=>if ml P t=true then .val (.bool false) else .bad
 | .neq,.box _ _,.bU=>if ml P t=true then .val (.bool true) else .bad
 | .eql,.cU _,.bU=>if ml P t=true then .val (.bool false) else .bad
 | .neq,.cU _,.bU=>if ml P t=true then .val (.bool true) else .bad
 | .eql,.aA,.aA=>if pH P t=true then .val (.bool true) else .bad
 | .eql,.vec _ _ _,.aA=>if pH P t=true then .val (.bool false) else .bad
 | .eql,.ms _ _ _ _ _,.aA=>if pH P t=true then .val (.bool false) else .bad
 | _,_,_=>.bad
def isLit:Operand->Bool
 | .const _=>true
 | _=>false
def Gx (P:Program) (op:BinOp) (t:TypeId) (lit:Bool) (x y:AV):ay :=
 match op,x,y with
 | .eql,.dv,.dv=>if kz P t=true/\lit=true then .val (.bool true) else .bad
 | .neq,.dv,.dv=>if kz P t=true/\lit=true then .val (.bool false) else .bad
 | op,x,y=>K4 P op t x y
end Go.Rip
namespace Go.Rip
open Go.RowKit
def AV.scalar:AV->Bool
 | .agg _ | .aG _ | .any=>false
 | _=>true
def aC:AV->List AV
 | .agg l=>l
 | v=>[v]
theorem D3 {g:Gh} {x:AV} {v:Value} (h:aE g x v) (hs:x.scalar=true):v.oneCell'=true:=by
 cases x <;> simp only [AV.scalar,bC] at hs <;> simp only [aE] at h
 all_goals first
  | (subst h; rfl)
  | (obtain ⟨_,_,rfl⟩:=h; rfl)
  | (obtain ⟨_,_,_,rfl,_⟩:=h; rfl)
  | (obtain ⟨_,_,_,_,rfl,_⟩:=h; rfl)
  | (obtain ⟨_,_,_,rfl,_⟩:=h; rfl)
  | (obtain ⟨_,_,rfl,_⟩:=h; rfl)
  | (obtain ⟨_,rfl,_⟩:=h; rfl)
  | (obtain ⟨_,_,_,_,rfl,_⟩:=h; rfl)
def AV.eF:AV->Bool
 | .aG _ | .any=>false
 | _=>true
theorem yH {g:Gh} {x:AV} {v:Value} (h:aE g x v) (hs:x.eF=true):aH g (aC x) v.cells.toList/\∀ u ∈ v.cells.toList,u.oneCell'=true:=by
 by_cases ha:∃ l,x=.agg l
 . obtain ⟨l,rfl⟩:=ha
   simp only [aE] at h
   obtain ⟨vs,rfl,h1,h2⟩:=h
   exact ⟨by simpa [aC,Value.cells] using h2,by simpa [Value.cells] using h1⟩
 . have U0:x.scalar=true:=by cases x <;> simp_all [AV.eF,AV.scalar]
   have h1:=D3 h U0
   have hc:aC x=[x]:=by cases x <;> simp_all [aC]
   have hv:v.cells=#[v]:=by cases v <;> simp_all [Value.cells,Value.oneCell']
   rw [hc,hv]
   exact ⟨by simp only [aH]; exact ⟨v,[],rfl,h,rfl⟩,by simpa using h1⟩
def mc (U:St):AV->Option (List AV)
 | .box b off=>(U.box b).map (·.drop off)
 | .cU l=>some l
 | _=>none
theorem rj {g:Gh} {U:St} {w:World} (h:bp g U w) {p:AV} {v:Value} {l:List AV} (hp:aE g p v) (hl:mc U p=some l) :
 ∃ a vs,v=.pointer (some a)/\a.spot=none/\aH g l vs/\∀ j u,vs[j]?=some u->w.cell? (a.add j)=some u/\u.oneCell'=true:=by
 have kx:∀ aN off j,(⟨aN,off,none⟩:Addr).add j=⟨aN,off+j,none⟩:=fun aN off j=>by unfold Addr.add; split <;> simp_all
 cases p <;> simp only [mc,reduceCtorEq] at hl
 . rename_i b off
   cases hb:U.box b with
   | none=>simp [hb] at hl
   | some l0 =>
     simp [hb] at hl
     subst hl
     simp only [aE] at hp
     obtain ⟨x,hx,rfl⟩:=hp
     obtain ⟨x',cur,vs,rest,k1,k2,k3,k4,k5,k6,k7,k8⟩:=h.box b l0 hb
     rw [hx] at k1; cases k1
     refine ⟨⟨x.aN,off,none⟩,vs.drop off,rfl,rfl,k6.drop off,fun j u hu=>?_⟩
     rw [kx,cell_of_row _ _ _ cur x.e (0,0) k3]
     rw [List.getElem?_drop] at hu
     have aM:off+j < vs.length:=by
      rcases gr (off+j) vs.length with h | h
      . exact h
      . simp [zE h] at hu
     have:cur[off+j]?=some u:=by rw [<- lK,k5,va aM]; exact hu
     exact ⟨this,k7 u (fl (by rw [lK]; exact this))⟩
 . cases hl
   simp only [aE] at hp
   obtain ⟨aN,off,vs,rfl,hi,hr⟩:=hp
   exact ⟨⟨aN,off,none⟩,vs,rfl,rfl,hr,fun j u hu=>by rw [kx]; exact h.cC _ _ _ (hi j u hu)⟩
def iH:List AV->ay
 | x::_=>.val x
 | []=>.bad
def uz (P:Program) (t:TypeId) (p:AV) (U:St):ay :=
 match nO P t,mc U p with
 | some (true,sz),some l=>.cond (sz <= l.length) (.val (.agg (l.take sz)))
 | some (false,_),some l=>iH l
 | _,_=>.bad
theorem oy {P:Program} {t:TypeId} {b:Bool} {sz:Nat} (h:nO P t=some (b,sz)) :
 ∃ i d,P.info? t=some i/\P.underlying t=some d/\Dx d=b/\i.size=sz:=by
 unfold nO at h
 split at h
 . rename_i i d hi hd
   simp only [iW,gJ] at h
   exact ⟨i,d,hi,hd,h.1,h.2⟩
 . cases h
theorem lx {P:Program} {t:TypeId} {d:TypeDesc} (h:P.underlying t=some d) (w:World):(isAgg t).run P w=.ok (Dx d) w:=by
 simp only [isAgg,cm,run_underlying h,cI]
 cases d <;> rfl
theorem eK {P:Program} {t:TypeId} {i:TypeInfo} (h:P.info? t=some i) (w:World):(sizeOf t).run P w=.ok i.size w:=by
 simp [sizeOf,typeInfo,h]
section
variable {C:cT} {g:Gh} {U:St} {w:World}
theorem LN (h:bp g U w) {t:TypeId} {p:AV} {v:Value} (hp:aE g p v):ay.Fits C g U (uz C.P t p U) ((do let x <- Instr.loadAt t v; pure (Next.value x):Sem Next).run C.P w):=by
 unfold uz
 split
 . rename_i b sz l hv hl
   obtain ⟨i,d,hi,hd,hb,eH⟩:=oy hv
   obtain ⟨a,vs,rfl,ha,hr,hc⟩:=rj h hp hl
   intro hle
   have hlen:=hr.length
   have gZ:(loadCells a (vs.take sz).length).run C.P w=.ok (vs.take sz).toArray w :=
    run_loadCells_list (P:=C.P) w a (vs.take sz) fun j u hu=>by
     rw [List.getElem?_take] at hu
     split at hu
     . exact (hc j u hu).1
     . cases hu
   have qi:(vs.take sz).length=sz:=by simp; omega
   rw [qi] at gZ
   simp only [Instr.loadAt,Instr.sureAddr,loadVar,cm,cP,cI,lx hd,hb,if_true,eK hi,eH,gZ,eZ]
   have Ns:∀ u ∈ vs.take sz,u.oneCell'=true:=fun u hu=>by
    obtain ⟨j,hj⟩:=List.getElem?_of_mem hu
    rw [List.getElem?_take] at hj
    split at hj
    . exact (hc j u hj).2
    . cases hj
   exact a8 h (by simp only [aE]; exact ⟨_,rfl,Ns,hr.take sz⟩)
 . rename_i b sz l hv hl
   obtain ⟨i,d,hi,hd,hb,eH⟩:=oy hv
   obtain ⟨a,vs,rfl,ha,hr,hc⟩:=rj h hp hl
   cases l with
   | nil=>trivial
   | cons x xs =>
     simp only [aH] at hr
     obtain ⟨u,us,rfl,h1,h2⟩:=hr
     have:=(hc 0 u rfl).1
     have h0:a.add 0=a:=by simp [Addr.add]
     rw [h0] at this
     simp only [Instr.loadAt,Instr.sureAddr,loadVar,cm,cP,cI,lx hd,hb,bC,if_false,run_load,this,eZ]
     exact a8 h h1
 . trivial
def aK (l:List AV) (off:Nat) (cs:List AV):List AV:=l.take off++cs++l.drop (off+cs.length)
def Io (P:Program) (t:TypeId) (p v:AV) (U:St):ay :=
 match nO P t,p with
 | some (_,sz),.box b off=>match U.box b with
   | some l=>.cond (v.eF=true/\(aC v).length=sz/\off+sz <= l.length) (.ir (.aG []) b (.box (aK l off (aC v))))
   | none=>.bad
 | _,_=>.bad
theorem wm (h:bp g U w) {b off:Nat} {l:List AV} {x:Place} (hb:U.box b=some l) (hx:g.box b=some x) {cs:List AV} {us:List Value} (hr:aH g cs us) (h1:∀ u ∈ us,u.oneCell'=true)
 (oX:off+cs.length <= l.length):∃ w',(storeCells ⟨x.aN,off,none⟩ us).run C.P w=.ok () w'/\bp g (U.cG b (aK l off cs)) w':=by
 obtain ⟨x',cur,vs,rest,k1,k2,k3,k4,k5,k6,k7,k8⟩:=h.box b l hb
 rw [hx] at k1; cases k1
 have Cy:=hr.length
 have qi:=k6.length
 have eH:cur.size=vs.length+rest.length:=by rw [<- sr,k5,cZ]
 have gZ:=run_storeCells_at C.P x.aN off x.e us 0 cur w k3 (by omega) h1
 simp only [Nat.add_zero] at gZ
 refine ⟨_,gZ,?_⟩
 have e:cur.toList.take off++us++cur.toList.drop (off+us.length)=(vs.take off++us++vs.drop (off+us.length))++rest:=by
  rw [k5,List.take_append_of_le_length (by omega),List.drop_append_of_le_length (by omega)]
  simp
 refine h.setRow hb hx _ (vs.take off++us++vs.drop (off+us.length)) rest ?_ (by simpa using e) ?_ ?_
 . rw [<- sr]
   have:=congrArg List.length e
   simp only [cZ,List.length_take,List.length_drop] at this
   simp only [cZ,List.length_take,List.length_drop,sr] at this ⊢
   omega
 . unfold aK
   rw [Cy]
   exact ((k6.take off).append hr).append (k6.drop _)
 . intro u hu
   simp only [fN] at hu
   rcases hu with (hu | hu) | hu
   . exact k7 u (List.mem_of_mem_take hu)
   . exact h1 u hu
   . exact k7 u (List.mem_of_mem_drop hu)
theorem JI (h:bp g U w) {t:TypeId} {p x:AV} {v u:Value} (hp:aE g p v) (hx:aE g x u):ay.Fits C g U (Io C.P t p x U) ((do Instr.storeAt t v u; pure Next.skip:Sem Next).run C.P w):=by
 unfold Io
 split
 . rename_i bb sz b off hv
   split
   . rename_i l hb
     rintro ⟨h1,h2,h3⟩
     obtain ⟨i,d,hi,hd,_,eH⟩:=oy hv
     obtain ⟨uq,AP⟩:=yH hx h1
     simp only [aE] at hp
     obtain ⟨y,hy,rfl⟩:=hp
     obtain ⟨w',gZ,hs⟩:=wm (C:=C) h hb hy uq AP (by rw [h2]; exact h3)
     have hlen:u.cells.size=sz:=by rw [<- sr,uq.length]; exact h2
     simp only [Instr.storeAt,Instr.sureAddr,storeVar,cm,cP,cI,eK hi,eH,hlen,ne_eq,not_true_eq_false,if_false,eZ,gZ]
     exact ⟨undef,w',g,.inr ⟨rfl,rfl⟩,Gh.Le.refl g,hs,by simp only [aE]; exact ⟨[],rfl,by simp [aH]⟩⟩
   . trivial
 . trivial
def Gt (t:TypeId):List AV->ay
 | [.bU,.aA]=>.new .box none (.sK t [.bU,.aA])
 | l=>.db l
def Gs (P:Program) (t:TypeId):ay :=
 match pC P t with
 | some l=>Gt t l
 | none=>.bad
theorem mY {P:Program} {t:TypeId} {l:List AV} (hz:pC P t=some l):∃ i z,P.info? t=some i/\i.zero=some z/\z.cells.toList.mapM lI=some l:=by
 unfold pC at hz
 cases hi:P.info? t with
 | none=>simp [hi] at hz
 | some i =>
   cases tH:i.zero with
   | none=>simp [hi,tH] at hz
   | some z=>simp [hi,tH] at hz; exact ⟨i,z,rfl,tH,hz⟩
theorem gK {P:Program} {t:TypeId} {i:TypeInfo} {z:Value} (hi:P.info? t=some i) (hz:i.zero=some z) (w:World):(zeroValue t).run P w=.ok z w:=by
 simp [zeroValue,typeInfo,hi,hz]
theorem A8 (h:bp g U w) (e:TypeId) {l:List AV} {cur:Array Value} (hl:aH g l cur.toList) (h1:∀ u ∈ cur.toList,u.oneCell'=true) :
 ay.Fits C g U (.db l) (.ok (.value (.pointer (some ⟨w.heap.size,0,none⟩))) (w.alloc (.cells cur e))):=by
 obtain ⟨b,g',hb,hle,hx,hs⟩:=h.db e cur cur.toList [] l (by simp) hl h1
 exact ⟨_,_,g',b,rfl,hb,hle,hs,by simp only [NV.at,aE]; exact ⟨_,hx,rfl⟩⟩
theorem IQ (h:bp g U w) {t:TypeId}:ay.Fits C g U (Gs C.P t) ((do let x <- Instr.alloc t true (.tuple #[]); pure (Next.value x):Sem Next).run C.P w):=by
 unfold Gs
 split
 . rename_i l hz
   obtain ⟨i,z,hi,tH,hm⟩:=mY hz
   obtain ⟨h1,h2⟩:=eJ (g:=g) hm
   simp only [Instr.alloc,newVar,newRow,cm,cP,cI,gK hi tH,run_newObj]
   unfold Gt
   split
   . have hlen:=h1.length
     obtain ⟨b,g',hb,hle,hx,hs⟩:=h.tL (.cells z.cells t) t z.cells.size (.sK t [.bU,.aA]) fun g' hle hi hm=>⟨rfl,by simpa using hlen,z.cells,z.cells.toList,[],heap_alloc_new w _,rfl,by simp,h1.mono hle,h2,hi⟩
     exact ⟨_,_,g',b,rfl,hb,hle,hs,by simp only [NV.at,aE]; exact ⟨_,hx,rfl⟩⟩
   . exact A8 h t h1 h2
 . trivial
def eO (v:AV):ay:=.cond (v.eF=true) (.db (aC v))
theorem MU (h:bp g U w) {t:TypeId} {x:AV} {u:Value} (hx:aE g x u):ay.Fits C g U (eO x) ((do let y <- Instr.box t u; pure (Next.value y):Sem Next).run C.P w):=by
 intro hl
 obtain ⟨h1,h2⟩:=yH hx hl
 simp only [Instr.box,newVar,newRow,cm,cP,cI,run_newObj]
 exact A8 h t h1 h2
def bR (x:AV):ay :=
 match x with
 | .box _ _ | .cU _ | .func (.func _) _ _=>.val x
 | _=>.bad
def wL (P:Program) (s:TypeId) (p:AV) (f:Nat):ay :=
 match yO P s f,p with
 | some o,.box b off=>.val (.box b (off+o))
 | some o,.cU l=>.val (.cU (l.drop o))
 | _,_=>.bad
theorem I9 {P:Program} {s:TypeId} {f o:Nat} (h:yO P s f=some o):∃ fs x,P.underlying s=some (.struct fs)/\fs[f]?=some x/\P.cellsOf x.type ≠ 0/\x.offset=o:=by
 unfold yO at h
 split at h
 . rename_i fs hu
   split at h
   . rename_i x hx
     split at h
     . rename_i hc; cases h; exact ⟨fs,x,hu,hx,hc,rfl⟩
     . cases h
   . cases h
 . cases h
theorem wT {aN off n:Nat} {vs:List Value} (h:lV g aN off vs):lV g aN (off+n) (vs.drop n):=fun i u hu=>by
 rw [List.getElem?_drop] at hu
 have:=h (n+i) u hu
 rwa [Nat.add_assoc]
theorem Cj (h:bp g U w) {s f:Nat} {p:AV} {v:Value} (hp:aE g p v):ay.Fits C g U (wL C.P s p f) ((do let x <- Instr.fieldAt s v f; pure (Next.value x):Sem Next).run C.P w):=by
 have kx:∀ aN off j,(⟨aN,off,none⟩:Addr).add j=⟨aN,off+j,none⟩:=fun aN off j=>by unfold Addr.add; split <;> simp_all
 have key:∀ (o:Nat) (aN off:Nat),yO C.P s f=some o->v=.pointer (some ⟨aN,off,none⟩) ->
  ((do let x <- Instr.fieldAt s v f; pure (Next.value x):Sem Next).run C.P w)=.ok (.value (.pointer (some ⟨aN,off+o,none⟩))) w:=fun o aN off ho hv=>by
  obtain ⟨fs,x,hu,hx,hc,rfl⟩:=I9 ho
  subst hv
  obtain ⟨i,hi,hic⟩:∃ i,C.P.info? x.type=some i/\i.size=C.P.cellsOf x.type:=by
   cases hi:C.P.info? x.type with
   | none=>simp [Program.cellsOf,hi] at hc
   | some i=>exact ⟨i,rfl,by simp [Program.cellsOf,hi]⟩
  simp only [Instr.fieldAt,cm,cP,cI,run_underlying hu,hx,Instr.sureAddr,fieldPlace,eK hi,hic,if_neg hc,eZ,kx]
 unfold wL
 split
 . rename_i o b off ho
   simp only [aE] at hp
   obtain ⟨x,hx,hv⟩:=hp
   rw [key o x.aN off ho hv]
   exact a8 h (by simp only [aE]; exact ⟨x,hx,rfl⟩)
 . rename_i o l ho
   simp only [aE] at hp
   obtain ⟨aN,off,vs,hv,hi,hr⟩:=hp
   rw [key o aN off ho hv]
   exact a8 h (by simp only [aE]; exact ⟨aN,off+o,vs.drop o,rfl,wT hi,hr.drop o⟩)
 . trivial
theorem iN {P:Program} {t e:TypeId} {sz:Nat} (h:fj P t=some (e,sz)) :
 ∃ i z,P.underlying t=some (.slice e)/\P.info? e=some i/\i.zero=some z/\z.cells.size=sz/\i.size=sz/\0 < sz/\i.bytes <= 32768/\(∀ u ∈ z.cells.toList,u.oneCell'=true):=by
 unfold fj at h
 split at h
 . rename_i e' hu
   split at h
   . rename_i i hi
     split at h
     . rename_i z hz
       split at h
       . rename_i hc
         simp only [iW,gJ] at h
         obtain ⟨rfl,rfl⟩:=h
         refine ⟨i,z,hu,hi,hz,hc.1,rfl,hc.2.1,hc.2.2.1,fun u hu=>?_⟩
         have:=hc.2.2.2
         rw [Array.all_eq_true_iff_forall_mem] at this
         exact this u (by simpa using hu)
       . cases h
     . cases h
   . cases h
 . cases h
def uS (P:Program) (t:TypeId):Option (Nat × TypeId × Nat) :=
 match P.underlying t with
 | some (.array n e)=>match P.info? e with
   | some i=>some (n,e,i.size)
   | none=>none
 | _=>none
theorem ug {P:Program} {t e:TypeId} {n sz:Nat} (h:uS P t=some (n,e,sz)):∃ i,P.underlying t=some (.array n e)/\P.info? e=some i/\i.size=sz:=by
 unfold uS at h
 split at h
 . rename_i n' e' hu
   split at h
   . rename_i i hi
     simp only [iW,gJ] at h
     obtain ⟨rfl,rfl,rfl⟩:=h
     exact ⟨i,hu,hi,rfl⟩
   . cases h
 . cases h
def MO (P:Program) (t:TypeId) (x i:AV):ay :=
 match uS P t,x,i with
 | some (n,_,sz),.cU l,.int _ j=>.cond (0 <= j/\j < n) (.val (.cU (l.drop (j.toNat * sz))))
 | some (n,_,sz),.box b off,.int _ j=>.cond (0 <= j/\j < n) (.val (.box b (off+j.toNat * sz)))
 | _,_,_=>.bad
def wU (P:Program) (t:TypeId) (x i:AV):ay :=
 match fj P t,x,i with
 | none,x,i=>MO P t x i
 | some (_,sz),.vec n _ l,.int _ j=>.cond (0 <= j/\j < n) (.val (.cU (l.drop (j.toNat * sz))))
 | some (_,sz),.ms b off n jq _,.int _ j=>.cond (0 <= j/\j < n/\jq=sz) (.val (.box b (off+j.toNat * sz)))
 | _,_,_=>.bad
theorem CG (h:bp g U w) {t:TypeId} {x y:AV} {v u:Value} (hx:aE g x v) (hy:aE g y u):ay.Fits C g U (wU C.P t x y) ((do let x <- Instr.indexAt t v u; pure (Next.value x):Sem Next).run C.P w):=by
 have kx:∀ aN off j,(⟨aN,off,none⟩:Addr).add j=⟨aN,off+j,none⟩:=fun aN off j=>by unfold Addr.add; split <;> simp_all
 have key:∀ (e:TypeId) (sz:Nat) (aN off n c:Nat) (k:IntKind) (j:Int),fj C.P t=some (e,sz)->v=.slice (some ⟨aN,off,none⟩) n c->u=.int k j->0 <= j->j < n ->
  ((do let x <- Instr.indexAt t v u; pure (Next.value x):Sem Next).run C.P w)=.ok (.value (.pointer (some ⟨aN,off+j.toNat * sz,none⟩))) w:=fun e sz aN off n c k j ho hv hu h0 h1=>by
  obtain ⟨i,z,oR,hi,hz,_,eH,_⟩:=iN ho
  subst hv hu
  simp only [Instr.indexAt,asIntOf,cm,cP,cI,run_underlying oR,h0,h1,and_self,if_true,eZ,eK hi,eH,kx]
 unfold wU
 split
 . unfold MO
   split
   . rename_i n e sz l k j ha
     rintro ⟨h0,h1⟩
     obtain ⟨i,oR,hi,eH⟩:=ug ha
     simp only [aE] at hx hy
     obtain ⟨aN,off,vs,rfl,ky,hr⟩:=hx
     subst hy
     simp only [Instr.indexAt,asIntOf,cm,cP,cI,run_underlying oR,Instr.sureAddr,h0,h1,and_self,if_true,eZ,eK hi,eH,kx]
     exact a8 h (by simp only [aE]; exact ⟨aN,_,_,rfl,wT ky,hr.drop _⟩)
   . rename_i n e sz b off k j ha
     rintro ⟨h0,h1⟩
     obtain ⟨i,oR,hi,eH⟩:=ug ha
     simp only [aE] at hx hy
     obtain ⟨x,hb,rfl⟩:=hx
     subst hy
     simp only [Instr.indexAt,asIntOf,cm,cP,cI,run_underlying oR,Instr.sureAddr,h0,h1,and_self,if_true,eZ,eK hi,eH,kx]
     exact a8 h (by simp only [aE]; exact ⟨x,hb,rfl⟩)
   . trivial
 . rename_i e sz n cap l k j hs
   rintro ⟨h0,h1⟩
   simp only [aE] at hx hy
   obtain ⟨aN,off,c,vs,hv,_,_,_,hi,hr⟩:=hx
   rw [key e sz aN off n c k j hs hv hy h0 h1]
   exact a8 h (by simp only [aE]; exact ⟨aN,_,_,rfl,wT hi,hr.drop _⟩)
 . rename_i e sz b off n jq e' k j hs
   rintro ⟨h0,h1,rfl⟩
   simp only [aE] at hx hy
   obtain ⟨x,c,hb,hv,_⟩:=hx
   rw [key e jq x.aN off n c k j hs hv hy h0 h1]
   exact a8 h (by simp only [aE]; exact ⟨x,hb,rfl⟩)
 . trivial
def nr (P:Program) (t:TypeId):Bool:=match P.underlying t with | some .string=>true | _=>false
def CF (P:Program) (t:TypeId) (x i:AV):ay :=
 match x,i with
 | .str s,.int _ j=>if nr P t=true then .cond (0 <= j/\j < s.length) (.val (.int .u8 (s.getD j.toNat 0).toNat)) else .bad
 | .agg l,.int _ j=>match uS P t with
   | some (n,e,sz)=>match nO P e with
     | some (false,_)=>.cond (0 <= j/\j < n) (iH (l.drop (j.toNat * sz)))
     | some (true,k)=>.cond (0 <= j/\j < n/\k=sz/\j.toNat * sz+sz <= l.length) (.val (.agg ((l.drop (j.toNat * sz)).take sz)))
     | none=>.bad
   | none=>.bad
 | _,_=>.bad
theorem pg {P:Program} {t:TypeId} (h:nr P t=true):P.underlying t=some .string:=by
 unfold nr at h
 split at h
 . assumption
 . cases h
theorem Jg (h:bp g U w) {t:TypeId} {x y:AV} {v u:Value} (hx:aE g x v) (hy:aE g y u):ay.Fits C g U (CF C.P t x y) ((do let x <- Instr.index t v u; pure (Next.value x):Sem Next).run C.P w):=by
 unfold CF
 split
 . rename_i s k j
   split
   . rename_i ht
     rintro ⟨h0,h1⟩
     simp only [aE] at hx hy
     subst hx hy
     have hj:j.toNat < s.length:=by omega
     have e:(ByteArray.mk s.toArray)[j.toNat]?=some (s.getD j.toNat 0):=by
      have eH:(ByteArray.mk s.toArray).size=s.length:=by simp [ByteArray.size]
      rw [getElem?_pos _ _ (by rw [eH]; exact hj)]
      simp [mv,mQ hj]
      rfl
     simp only [Instr.index,asIntOf,cm,cP,cI,run_underlying (pg ht),h0,if_true,e]
     exact a8 h (by simp only [aE])
   . trivial
 . rename_i l k j
   split
   . rename_i n e sz ha
     obtain ⟨i,oR,hi,eH⟩:=ug ha
     simp only [aE] at hx hy
     subst hy
     obtain ⟨vs,rfl,Ns,hr⟩:=hx
     split
     . rename_i sz' hv
       obtain ⟨i',d,ky,hd,hb,_⟩:=oy hv
       rintro ⟨h0,h1⟩
       cases hl:l.drop (j.toNat * sz) with
       | nil=>trivial
       | cons z zs =>
         have hz:l[j.toNat * sz]?=some z:=by
          have:=congrArg (fun l=>l[0]?) hl
          simpa using this
         obtain ⟨u,EI,hzu⟩:=hr.get hz
         have e1:vs.toArray[j.toNat * sz]?=some u:=by simpa using EI
         simp only [Instr.index,asIntOf,cm,cP,cI,run_underlying oR,h0,h1,and_self,if_true,eZ,eK hi,eH,part,lx hd,hb,bC,if_false,e1]
         exact a8 h hzu
     . rename_i k' hv
       obtain ⟨i',d,ky,hd,hb,hk⟩:=oy hv
       rw [hi] at ky; cases ky
       rintro ⟨h0,h1,rfl,h2⟩
       simp only [Instr.index,asIntOf,cm,cP,cI,run_underlying oR,h0,h1,and_self,if_true,eZ,eK hi,eH,part,lx hd,hb]
       refine a8 h ?_
       simp only [aE]
       refine ⟨(vs.drop (j.toNat * k')).take k',?_,fun u hu=>Ns u (List.mem_of_mem_drop (List.mem_of_mem_take hu)),(hr.drop _).take _⟩
       congr 1
       apply Array.ext'
       simp [List.extract_eq_take_drop]
     . trivial
   . trivial
 . trivial
end
end Go.Rip
namespace Go.Rip
open Go.RowKit
section
variable {C:cT} {g:Gh} {U:St} {w:World}
theorem qv {P:Program} {d:Nat}:∀ (fs:List Field) (i:Nat) (ks:List FK) (xs ys:List AV) (us vs:Array Value) (r:Bool),vG P fs i=some ks->o7 ks xs ys=some r ->
 aH g xs (us.toList.drop i)->aH g ys (vs.toList.drop i)->(Op.eqFields (d+1) us vs fs).run P w=.ok r w
 | [],i,ks,xs,ys,us,vs,r,hk,he,_,_=>by
   simp only [vG,iW] at hk
   subst hk
   cases xs <;> cases ys <;> simp only [o7,reduceCtorEq,iW] at he
   subst he
   simp [Op.eqFields]
 | f::fs,i,ks,xs,ys,us,vs,r,hk,he,hx,hy=>by
   simp only [vG] at hk
   split at hk
   . rename_i k ks' hf ND
     simp only [iW] at hk
     subst hk
     unfold Nl at hf
     split at hf
     . rename_i hc
       obtain ⟨ho,hn⟩:=hc
       have UW:∀ (us:Array Value) (u:Value),us[i]?=some u->∀ dd,P.underlying f.type=some dd->Dx dd=false->(part f.type us f.offset).run P w=.ok u w:=fun us u hu dd hd ha=>by
        simp only [part,cm,lx hd,cI,ha,bC,if_false,ho,hu,cP,eZ]
       have oC:∀ {xs:List AV} {x:AV} {us:Array Value},aH g (x::xs) (us.toList.drop i)->∃ u,us[i]?=some u/\aE g x u/\aH g xs (us.toList.drop (i+1)):=fun {xs x us} h=>by
        simp only [aH] at h
        obtain ⟨u,rest,e,h1,h2⟩:=h
        refine ⟨u,?_,h1,?_⟩
        . have:=congrArg (fun l=>l[0]?) e
          simpa using this
        . have:=congrArg (List.drop 1) e
          rw [List.drop_drop] at this
          rw [this]; simpa using h2
       have vN:∀ (u v:Value) (q r':Bool) (dd:TypeDesc),us[i]?=some u->vs[i]?=some v->P.underlying f.type=some dd->Dx dd=false->(Op.equalIn (d+1) f.type u v).run P w=.ok q w ->
        (Op.eqFields (d+1) us vs fs).run P w=.ok r' w->(Op.eqFields (d+1) us vs (f::fs)).run P w=.ok (q && r') w:=fun u v q r' dd hu hv hd ha heq aez=>by
        simp only [Op.eqFields,if_pos hn,cm,UW us u hu dd hd ha,UW vs v hv dd hd ha,cI,heq,eZ,cP,aez]
        cases q <;> simp
       split at hf
       . rename_i hd
         cases hf
         cases xs with
         | nil=>simp [o7] at he
         | cons x xs =>
           cases ys with
           | nil=>cases x <;> simp [o7] at he
           | cons y ys =>
             cases x <;> cases y <;> simp only [o7,reduceCtorEq] at he
             cases hr:o7 ks' xs ys with
             | none=>simp [hr] at he
             | some r' =>
               simp [hr] at he
               subst he
               obtain ⟨u,hu,EK,ji⟩:=oC hx
               obtain ⟨v,hv,EL,zc⟩:=oC hy
               simp only [aE] at EK EL
               subst EK EL
               have:=vN _ _ _ r' _ hu hv hd rfl (run_equalIn_bool' w d f.type _ _ hd) (qv fs (i+1) ks' xs ys us vs r' ND hr ji zc)
               rw [this]
       . rename_i kk hd
         cases hf
         cases xs with
         | nil=>simp [o7] at he
         | cons x xs =>
           cases ys with
           | nil=>cases x <;> simp [o7] at he
           | cons y ys =>
             cases x <;> cases y <;> simp only [o7,reduceCtorEq] at he
             split at he
             . rename_i e; subst e
               cases hr:o7 ks' xs ys with
               | none=>simp [hr] at he
               | some r' =>
                 simp [hr] at he
                 subst he
                 obtain ⟨u,hu,EK,ji⟩:=oC hx
                 obtain ⟨v,hv,EL,zc⟩:=oC hy
                 simp only [aE] at EK EL
                 subst EK EL
                 have:=vN _ _ _ r' _ hu hv hd rfl (run_equalIn_int w d f.type _ _ _ _ hd) (qv fs (i+1) ks' xs ys us vs r' ND hr ji zc)
                 rw [this]
             . cases he
       . rename_i hd
         cases hf
         cases xs with
         | nil=>simp [o7] at he
         | cons x xs =>
           cases ys with
           | nil=>cases x <;> simp [o7] at he
           | cons y ys =>
             cases x <;> cases y <;> simp only [o7,reduceCtorEq] at he
             cases hr:o7 ks' xs ys with
             | none=>simp [hr] at he
             | some r' =>
               simp [hr] at he
               subst he
               obtain ⟨u,hu,EK,ji⟩:=oC hx
               obtain ⟨v,hv,EL,zc⟩:=oC hy
               simp only [aE] at EK EL
               subst EK EL
               have:=vN _ _ _ r' _ hu hv hd rfl (run_equalIn_string w d f.type _ _ hd) (qv fs (i+1) ks' xs ys us vs r' ND hr ji zc)
               rw [this]
               simp [ByteArray.toList_eq]
       . cases hf
     . cases hf
   . cases hk
theorem C5 {P:Program} {t:TypeId} {a b:List AV} {us vs:List Value} {r:Bool} (h:J1 P t a b=some r) (ha:aH g a us) (hb:aH g b vs) :
 (Op.equalIn 10000 t (.agg us.toArray) (.agg vs.toArray)).run P w=.ok r w/\P.eqGuardType P.depth t=false:=by
 unfold J1 at h
 split at h
 . rename_i ks iq
   unfold Li at iq
   split at iq
   . rename_i fs hu
     split at iq
     . rename_i hc
       have eX:P.fieldsOf t=fs:=by simp [Program.fieldsOf,hu]
       refine ⟨?_,hc.2⟩
       rw [run_equalIn_struct w 9999 t _ _ (by rw [eX]; exact hu) hc.1,eX]
       exact qv (d:=9998) fs.toList 0 ks a b _ _ r iq h (by simpa using ha) (by simpa using hb)
     . cases iq
   . cases iq
 . cases h
theorem sJ {P:Program} (w:World) (d:Nat) (t:TypeId) (ms:Array (String × TypeId)) (h:P.underlying t=some (.interface ms)) (a:TypeId) (b:Value):(Op.equalIn (d+1) t (.iface a b) .nilIface).run P w=.ok false w:=by
 simp [Op.equalIn,run_underlying h]
theorem jR {P:Program} (w:World) (d:Nat) (t e:TypeId) (h:P.underlying t=some (.pointer e)) (a:Option Addr):(Op.equalIn (d+1) t (.pointer a) (.pointer none)).run P w=.ok a.isNone w:=by
 cases a <;> simp [Op.equalIn,run_underlying h]
theorem ot {P:Program} (w:World) (d:Nat) (t e:TypeId) (h:P.underlying t=some (.slice e)) (a:Option Addr) (n c:Nat):(Op.equalIn (d+1) t (.slice a n c) (.slice none 0 0)).run P w=.ok a.isNone w:=by
 cases a <;> simp [Op.equalIn,run_underlying h]
theorem qw {P:Program} (w:World) (d:Nat) (t:TypeId) (ms:Array (String × TypeId)) (h:P.underlying t=some (.interface ms)):(Op.equalIn (d+1) t .nilIface .nilIface).run P w=.ok true w:=by
 simp [Op.equalIn,run_underlying h]
theorem MR (h:bp g U w) {op:BinOp} {t:TypeId} {x y:AV} {u v:Value} (X Y:Operand) (hx:aE g x u) (hy:aE g y v) :
 ay.Fits C g U (K4 C.P op t x y) ((do let r <- (do eqGuard op t X Y u v; binOp op t u v:Sem Value); pure (Next.value r):Sem Next).run C.P w):=by
 have hI:∀ (k:IntKind) (n:Int),ay.Fits C g U (iP k n) (.ok (.value (.int k (k.wrap n))) w):=fun k n=>by
  unfold iP
  split
  . intro hi
    rw [x8 hi]
    exact a8 h (by simp only [aE])
  . exact a8 h (by simp only [aE])
 unfold K4
 split
 all_goals first
  | trivial
  | skip
 all_goals simp only [aE] at hx hy
 all_goals first
  | (subst hx hy
     split
     . rename_i e; subst e
       first
        | (simp only [eqGuard,binOp,ne_eq,not_true_eq_false,if_false,Op.intArith,Op.intCmp,Op.intBits,cm,cP,cI,Bool.not_eq_true',Bool.true_eq_false,cn,dx,bC,if_true,eZ]
           first
            | exact hI _ _
            | exact a8 h (by simp only [aE]))
        | (intro hb
           simp only [eqGuard,binOp,ne_eq,not_true_eq_false,if_false,Op.intDiv,if_neg hb,cm,cP,cI,Bool.not_eq_true',Bool.true_eq_false,cn,dx,bC,if_true,eZ]
           first
            | exact hI _ _
            | exact a8 h (by simp only [aE]))
     . trivial)
  | skip
 . subst hx hy
   simp only [eqGuard,binOp,Op.stringOp,cm,cP,cI,cn,bC,if_false,eZ,ByteArray.toList_eq,List.toList_toArray]
   exact a8 h (by simp only [aE])
 . subst hx hy
   simp only [eqGuard,binOp,Op.stringOp,cm,cP,cI,cn,bC,if_false,eZ,ByteArray.toList_eq,List.toList_toArray]
   exact a8 h (by simp only [aE]; rfl)
 . subst hx hy
   rename_i a b
   intro hle
   have h1:¬ (((ByteArray.mk a.toArray).size+(ByteArray.mk b.toArray).size:Nat):Int) > IntKind.i64.max:=by
    have e1:(ByteArray.mk a.toArray).size=a.length:=by simp [ByteArray.size]
    have e2:(ByteArray.mk b.toArray).size=b.length:=by simp [ByteArray.size]
    have e3:IntKind.i64.max=9223372036854775807:=by simp [IntKind.max,IntKind.signed,IntKind.bits]
    rw [e1,e2,e3]; omega
   have h2:(ByteArray.mk a.toArray)++(ByteArray.mk b.toArray)=ByteArray.mk (a++b).toArray:=by
    apply ByteArray.ext
    simp
   simp only [eqGuard,binOp,Op.stringOp,cm,cP,cI,if_neg h1,eZ,cn,dx,bC,if_true,if_false,h2]
   exact a8 h (by simp only [aE])
 . subst hx hy
   split
   . rename_i ht
     have hu:C.P.underlying t=some .bool:=by unfold vX at ht; split at ht <;> simp_all
     have hr:=run_equalIn_bool' (P:=C.P) w 9999 t
     simp only [eqGuard,binOp,Op.equal,Op.maxDepth,cm,cP,cI,hr _ _ hu,cn,bC,if_false,eZ]
     exact a8 h (by simp only [aE])
   . trivial
 . subst hx hy
   split
   . rename_i ht
     have hu:C.P.underlying t=some .bool:=by unfold vX at ht; split at ht <;> simp_all
     have hr:=run_equalIn_bool' (P:=C.P) w 9999 t
     simp only [eqGuard,binOp,Op.equal,Op.maxDepth,cm,cP,cI,hr _ _ hu,cn,bC,if_false,eZ]
     exact a8 h (by simp only [aE]; rfl)
   . trivial
 . rename_i a b
   obtain ⟨us,rfl,_,ha⟩:=hx
   obtain ⟨vs,rfl,_,hb⟩:=hy
   cases he:J1 C.P t a b with
   | none=>trivial
   | some r =>
     obtain ⟨h1,h2⟩:=C5 (w:=w) he ha hb
     simp only [xW,cm,run_eqGuard_agg w _ _ _ _ _ _ h2,cI,run_eql_struct,h1,cP]
     exact a8 h (by simp only [aE])
 . rename_i a b
   obtain ⟨us,rfl,_,ha⟩:=hx
   obtain ⟨vs,rfl,_,hb⟩:=hy
   cases he:J1 C.P t a b with
   | none=>trivial
   | some r =>
     obtain ⟨h1,h2⟩:=C5 (w:=w) he ha hb
     simp only [xW,cm,run_eqGuard_agg w _ _ _ _ _ _ h2,cI,run_neq_struct,h1,cP]
     exact a8 h (by simp only [aE])
 . obtain ⟨u',rfl,_⟩:=hx
   subst hy
   split
   . rename_i ht
     obtain ⟨ms,hu⟩:∃ ms,C.P.underlying t=some (.interface ms):=by unfold kz at ht; split at ht <;> simp_all
     have hr:=sJ (P:=C.P) w 9999 t ms hu
     simp only [eqGuard,binOp,Op.equal,Op.maxDepth,hr,cm,cP,cI,cn,bC,if_false,eZ]
     exact a8 h (by simp only [aE])
   . trivial
 . obtain ⟨u',rfl,_⟩:=hx
   subst hy
   split
   . rename_i ht
     obtain ⟨ms,hu⟩:∃ ms,C.P.underlying t=some (.interface ms):=by unfold kz at ht; split at ht <;> simp_all
     have hr:=sJ (P:=C.P) w 9999 t ms hu
     simp only [eqGuard,binOp,Op.equal,Op.maxDepth,hr,cm,cP,cI,cn,dx,bC,if_false,eZ]
     exact a8 h (by simp only [aE])
   . trivial
 . subst hx hy
   split
   . rename_i ht
     obtain ⟨ms,hu⟩:∃ ms,C.P.underlying t=some (.pointer ms):=by unfold ml at ht; split at ht <;> simp_all
     have hr:=jR (P:=C.P) w 9999 t ms hu
     simp only [eqGuard,binOp,Op.equal,Op.maxDepth,hr,cm,cP,cI,Option.isNone_none,cn,dx,bC,if_false,eZ]
     exact a8 h (by simp [aE])
   . trivial
 . obtain ⟨x,_,rfl⟩:=hx
   subst hy
   split
   . rename_i ht
     obtain ⟨ms,hu⟩:∃ ms,C.P.underlying t=some (.pointer ms):=by unfold ml at ht; split at ht <;> simp_all
     have hr:=jR (P:=C.P) w 9999 t ms hu
     simp only [eqGuard,binOp,Op.equal,Op.maxDepth,hr,cm,cP,cI,Option.isNone_none,cn,dx,bC,if_false,eZ]
     exact a8 h (by simp [aE])
   . trivial
 . subst hx hy
   split
   . rename_i ht
     obtain ⟨ms,hu⟩:∃ ms,C.P.underlying t=some (.pointer ms):=by unfold ml at ht; split at ht <;> simp_all
     have hr:=jR (P:=C.P) w 9999 t ms hu
     simp only [eqGuard,binOp,Op.equal,Op.maxDepth,hr,cm,cP,cI,Option.isNone_none,cn,dx,bC,if_false,eZ]
     exact a8 h (by simp [aE])
   . trivial
 . obtain ⟨x,_,rfl⟩:=hx
   subst hy
   split
   . rename_i ht
     obtain ⟨ms,hu⟩:∃ ms,C.P.underlying t=some (.pointer ms):=by unfold ml at ht; split at ht <;> simp_all
     have hr:=jR (P:=C.P) w 9999 t ms hu
     simp only [eqGuard,binOp,Op.equal,Op.maxDepth,hr,cm,cP,cI,Option.isNone_none,cn,dx,bC,if_false,eZ]
     exact a8 h (by simp [aE])
   . trivial
 . obtain ⟨_,_,_,rfl,_⟩:=hx
   subst hy
   split
   . rename_i ht
     obtain ⟨ms,hu⟩:∃ ms,C.P.underlying t=some (.pointer ms):=by unfold ml at ht; split at ht <;> simp_all
     have hr:=jR (P:=C.P) w 9999 t ms hu
     simp only [eqGuard,binOp,Op.equal,Op.maxDepth,hr,cm,cP,cI,Option.isNone_none,cn,dx,bC,if_false,eZ]
     exact a8 h (by simp [aE])
   . trivial
 . obtain ⟨_,_,_,rfl,_⟩:=hx
   subst hy
   split
   . rename_i ht
     obtain ⟨ms,hu⟩:∃ ms,C.P.underlying t=some (.pointer ms):=by unfold ml at ht; split at ht <;> simp_all
     have hr:=jR (P:=C.P) w 9999 t ms hu
     simp only [eqGuard,binOp,Op.equal,Op.maxDepth,hr,cm,cP,cI,Option.isNone_none,cn,dx,bC,if_false,eZ]
     exact a8 h (by simp [aE])
   . trivial
 . subst hx
   subst hy
   split
   . rename_i ht
     obtain ⟨ms,hu⟩:∃ ms,C.P.underlying t=some (.slice ms):=by unfold pH at ht; split at ht <;> simp_all
     have hr:=ot (P:=C.P) w 9999 t ms hu
     simp only [eqGuard,binOp,Op.equal,Op.maxDepth,hr,cm,cP,cI,Option.isNone_none,Option.isNone_some,cn,dx,bC,if_false,eZ]
     exact a8 h (by simp [aE])
   . trivial
 . obtain ⟨_,_,_,_,rfl,_⟩:=hx
   subst hy
   split
   . rename_i ht
     obtain ⟨ms,hu⟩:∃ ms,C.P.underlying t=some (.slice ms):=by unfold pH at ht; split at ht <;> simp_all
     have hr:=ot (P:=C.P) w 9999 t ms hu
     simp only [eqGuard,binOp,Op.equal,Op.maxDepth,hr,cm,cP,cI,Option.isNone_none,Option.isNone_some,cn,dx,bC,if_false,eZ]
     exact a8 h (by simp [aE])
   . trivial
 . obtain ⟨_,_,_,rfl,_⟩:=hx
   subst hy
   split
   . rename_i ht
     obtain ⟨ms,hu⟩:∃ ms,C.P.underlying t=some (.slice ms):=by unfold pH at ht; split at ht <;> simp_all
     have hr:=ot (P:=C.P) w 9999 t ms hu
     simp only [eqGuard,binOp,Op.equal,Op.maxDepth,hr,cm,cP,cI,Option.isNone_none,Option.isNone_some,cn,dx,bC,if_false,eZ]
     exact a8 h (by simp [aE])
   . trivial
theorem MS (h:bp g U w) {op:BinOp} {t:TypeId} {x y:AV} {u v:Value} (X Y:Operand) (hx:aE g x u) (hy:aE g y v) :
 ay.Fits C g U (Gx C.P op t (isLit X || isLit Y) x y) ((do let r <- (do eqGuard op t X Y u v; binOp op t u v:Sem Value); pure (Next.value r):Sem Next).run C.P w):=by
 have key:∀ (op:BinOp),(op=.eql\/op=.neq)->kz C.P t=true->(isLit X || isLit Y)=true->(eqGuard op t X Y .nilIface .nilIface).run C.P w=.ok () w:=fun op hop ht hl=>by
  obtain ⟨ms,hu⟩:∃ ms,C.P.underlying t=some (.interface ms):=by unfold kz at ht; split at ht <;> simp_all
  rcases hop with rfl | rfl <;> cases X <;> cases Y <;> simp [isLit] at hl <;> simp [eqGuard]
 unfold Gx
 split
 . simp only [aE] at hx hy
   subst hx hy
   split
   . rename_i ht
     obtain ⟨ms,hu⟩:∃ ms,C.P.underlying t=some (.interface ms):=by have ht:=ht.1; unfold kz at ht; split at ht <;> simp_all
     have hr:=qw (P:=C.P) w 9999 t ms hu
     simp only [cm,key _ (.inl rfl) ht.1 ht.2,binOp,Op.equal,Op.maxDepth,hr,cP,cI,cn,dx,bC,if_false,eZ]
     exact a8 h (by simp [aE])
   . trivial
 . simp only [aE] at hx hy
   subst hx hy
   split
   . rename_i ht
     obtain ⟨ms,hu⟩:∃ ms,C.P.underlying t=some (.interface ms):=by have ht:=ht.1; unfold kz at ht; split at ht <;> simp_all
     have hr:=qw (P:=C.P) w 9999 t ms hu
     simp only [cm,key _ (.inr rfl) ht.1 ht.2,binOp,Op.equal,Op.maxDepth,hr,cP,cI,cn,dx,bC,if_false,eZ]
     exact a8 h (by simp [aE])
   . trivial
 . exact MR h X Y hx hy
end
end Go.Rip
namespace Go.Rip
open Go.RowKit
section
variable {C:cT} {g:Gh} {U:St} {w:World}
def K2 (P:Program) (t u:TypeId):Option (TypeId × Nat) :=
 match P.underlying u with
 | some (.slice _)=>fj P t
 | some .string=>match fj P t with
   | some (e,1)=>some (e,1)
   | _=>none
 | _=>none
def pL (U:St):AV->Option (Nat × List AV)
 | .vec m _ l=>some (m,l)
 | .aA=>some (0,[])
 | .ms b off m jq _=>match U.box b with
   | some l=>some (m,(l.drop off).take (m * jq))
   | none=>none
 | .str s=>some (s.length,s.map fun b=>.int .u8 b.toNat)
 | _=>none
def Dz (P:Program) (t u:TypeId) (mu:Bool) (s y:AV) (U:St):ay :=
 match K2 P t u,pL U y with
 | some (e,sz),some (m,l2) =>
   .cond (l2.length=m * sz) (match s with
   | .aA=>if m=0 then .val .aA else .cond (m <= 4294967296) (if mu then .oE m sz e none l2 else .nv m l2 none ⟨m,e,sz⟩)
   | .vec n .full l=>if m=0 then .val s else .cond (l.length=n * sz/\n+m <= 4294967296) (.nv (n+m) (l++l2) none ⟨n+m,e,sz⟩)
   | .vec n (.own τ) l=>.cond (U.tok τ=some ⟨n,e,sz⟩/\l.length=n * sz/\n+m <= 4294967296) (.nv (n+m) (l++l2) (some τ) ⟨n+m,e,sz⟩)
   | .ms b off n jq e'=>match U.box b with
     | some l=>.cond (off=0/\jq=sz/\e'=e/\n * sz <= l.length/\n+m <= 4294967296) (.oE (n+m) sz e (some b) (l.take (n * sz)++l2))
     | none=>.bad
   | _=>.bad)
 | _,_=>.bad
theorem MN {P:Program} {t u e:TypeId} {sz:Nat} (h:K2 P t u=some (e,sz)):fj P t=some (e,sz)/\∃ d,P.underlying u=some d/\((∃ x,d=.slice x)\/d=.string):=by
 unfold K2 at h
 split at h
 . rename_i x hx; exact ⟨h,_,hx,.inl ⟨x,rfl⟩⟩
 . rename_i hx
   split at h
   . rename_i e' he
     simp only [iW,gJ] at h
     obtain ⟨rfl,rfl⟩:=h
     exact ⟨he,_,hx,.inr rfl⟩
   . cases h
 . cases h
theorem RN (h:bp g U w) {y:AV} {v:Value} (hy:aE g y v) {m:Nat} {l2:List AV} (hs:pL U y=some (m,l2)) {sz:Nat} (hl:l2.length=m * sz) :
 (∀ W,(Builtin.lenOf v).run C.P W=.ok m W)/\∃ us:List Value,aH g l2 us/\(∀ u ∈ us,u.oneCell'=true)/\∀ W:World,W.heap=w.heap->(Builtin.firstCells sz m v).run C.P W=.ok us.toArray W:=by
 have kx:∀ aN off j,(⟨aN,off,none⟩:Addr).add j=⟨aN,off+j,none⟩:=fun aN off j=>by unfold Addr.add; split <;> simp_all
 have rn:∀ (W:World) a,W.heap=w.heap->W.cell? a=w.cell? a:=fun W a hW=>by simp [World.cell?,hW]
 have read:∀ (aN off c:Nat) (us:List Value),us.length=m * sz->(∀ j u,us[j]?=some u->w.cell? ⟨aN,off+j,none⟩=some u)->∀ W:World,W.heap=w.heap ->
  (Builtin.firstCells sz m (.slice (some ⟨aN,off,none⟩) m c)).run C.P W=.ok us.toArray W:=fun aN off c us hlen hc W hW=>by
  exact run_firstCells_some W sz m ⟨aN,off,none⟩ m c us hlen (fun j u hu=>by rw [kx,rn W _ hW]; exact hc j u hu)
 cases y <;> simp only [pL,reduceCtorEq,iW,gJ] at hs
 . rename_i s
   obtain ⟨rfl,rfl⟩:=hs
   simp only [aE] at hy
   subst hy
   have eH:(ByteArray.mk s.toArray).size=s.length:=by simp [ByteArray.size]
   refine ⟨fun W=>by simp [Builtin.lenOf,eH],s.map (fun b=>Value.int .u8 b.toNat),?_,by simp [Value.oneCell'],fun W _=>?_⟩
   . refine aH.CT (by simp) fun i x u hx hu=>?_
     simp only [mr,o1] at hx hu
     obtain ⟨b,hb,rfl⟩:=hx
     obtain ⟨b',eT,rfl⟩:=hu
     rw [hb] at eT; cases eT
     simp only [aE]
   . simp only [Builtin.firstCells,cP]
     congr 1
     apply Array.ext'
     simp
 . obtain ⟨rfl,rfl⟩:=hs
   simp only [aE] at hy
   subst hy
   exact ⟨fun W=>by simp [Builtin.lenOf],[],by simp [aH],by simp,fun W _=>by simp [Builtin.firstCells]⟩
 . rename_i n cap l
   obtain ⟨rfl,rfl⟩:=hs
   simp only [aE] at hy
   obtain ⟨aN,off,c,vs,rfl,_,_,_,hi,hr⟩:=hy
   exact ⟨fun W=>by simp [Builtin.lenOf],vs,hr,fun u hu=>by
    obtain ⟨j,hj⟩:=List.getElem?_of_mem hu
    exact (h.cC _ _ _ (hi j u hj)).2,read aN off c vs (by rw [hr.length,hl]) fun j u hu=>(h.cC _ _ _ (hi j u hu)).1⟩
 . rename_i b off n jq e'
   split at hs
   . rename_i l hb
     simp only [iW,gJ] at hs
     obtain ⟨rfl,rfl⟩:=hs
     simp only [aE] at hy
     obtain ⟨x,c,hx,rfl,_,_,_,_⟩:=hy
     obtain ⟨a,vs,hv,ha,hr,hc⟩:=rj h (p:=.box b off) (v:=.pointer (some ⟨x.aN,off,none⟩)) (l:=l.drop off) (by simp only [aE]; exact ⟨x,hx,rfl⟩) (by simp [mc,hb])
     cases hv
     refine ⟨fun W=>by simp [Builtin.lenOf],vs.take (n * jq),hr.take _,fun u hu=>?_,read x.aN off c _ (by rw [(hr.take _).length,hl]) fun j u hu=>?_⟩
     . obtain ⟨j,hj⟩:=List.getElem?_of_mem hu
       rw [List.getElem?_take] at hj
       split at hj
       . exact (hc j u hj).2
       . cases hj
     . rw [List.getElem?_take] at hu
       split at hu
       . have:=(hc j u hu).1; rwa [kx] at this
       . cases hu
   . cases hs
theorem oK {P:Program} {w:World} {t u ty e:TypeId} {i:TypeInfo} {d:TypeDesc} (ht:P.underlying t=some (.slice e)) (hu:P.underlying u=some d) (hd:(∃ x,d=.slice x)\/d=.string) (hi:P.info? e=some i)
 {base:Option Addr} {n c m:Nat} {v:Value} {us:List Value} (hm:∀ W,(Builtin.lenOf v).run P W=.ok m W) (hf:(Builtin.firstCells i.size m v).run P w=.ok us.toArray w) (pt:n+m <= c) :
 (Builtin.append_ #[t,u] ty #[.slice base n c,v]).run P w=match base with
   | some a=>((storeCells (a.add (n * i.size)) us).run P w).andThen fun _ w'=>.ok (.slice base (n+m) c) w'
   | none=>.ok (.slice base (n+m) c) w:=by
 rcases hd with ⟨x,rfl⟩ | rfl <;> cases base <;>
  simp [Builtin.append_,run_underlying ht,run_underlying hu,sizeOf,typeInfo,hi,hm,pt,hf]
theorem D2 {P:Program} {w:World} {t u ty e:TypeId} {i:TypeInfo} {z:Value} {d:TypeDesc} (ht:P.underlying t=some (.slice e)) (hu:P.underlying u=some d) (hd:(∃ x,d=.slice x)\/d=.string) (hi:P.info? e=some i) (hz:i.zero=some z) (Cu:i.bytes <= 32768)
 {base:Option Addr} {n c m:Nat} {v:Value} {zt us:List Value} (hm:∀ W,(Builtin.lenOf v).run P W=.ok m W) (hf:∀ W:World,W.heap=w.heap->(Builtin.firstCells i.size m v).run P W=.ok us.toArray W)
 (ho:∀ W:World,W.heap=w.heap->(Builtin.firstCells i.size n (.slice base n c)).run P W=.ok zt.toArray W) (afG:c < n+m) (nj:n+m <= 4294967296) :
 (Builtin.append_ #[t,u] ty #[.slice base n c,v]).run P w =
   .ok (.slice (some ⟨w.heap.size,0,none⟩) (n+m) (grownCap w (n+m) c e))
    (w.drew.alloc (.cells (zt.toArray++us.toArray++Builtin.zeroCells z.cells (grownCap w (n+m) c e - (n+m))) e)):=by
 have pt:¬ (n+m <= c):=by omega
 have SH:¬ (9223372036854775807 < ((n:Int)+(m:Int))):=by omega
 have mD:(n+m) * i.bytes <= 140737488355328:=Nat.le_trans (Nat.mul_le_mul nj Cu) (by omega)
 have Eu:=growslice_fits (old:=c) (need:=n+m) (bytes:=i.bytes) (by omega) mD
 have SG:¬ (281474976710656 < Builtin.nextslicecap (n+m) c * i.bytes):=by omega
 have od:=hf w.drew rfl
 have US:=ho w.drew rfl
 rcases hd with ⟨x,rfl⟩ | rfl <;>
 . simp [Builtin.append_,run_underlying ht,run_underlying hu,sizeOf,typeInfo,zeroValue,hi,hz,hm,pt,SH,SG,Question.forced,od,US,newRow,grownCap]
   congr 2
   apply Array.ext'
   simp [kI]
theorem St.JZ (U:St) (d:Option Nat):St.Le (U.sh d) U:=by
 cases d with
 | none=>exact St.Le.refl U
 | some b=>exact St.vC U b
theorem o9 {w:World} (h:bp g U w) {del:Option Nat} {e:TypeId} {sz n c:Nat} {l:List AV} {vs rest:List Value} (hr:aH g l vs) (h1:∀ u ∈ vs,u.oneCell'=true) (h2:∀ u ∈ rest,u.oneCell'=true)
 (hl:l.length=n * sz) (hc:vs.length+rest.length=c * sz) (hn:n <= c) (vM:c <= maxLen) :
 ay.Fits C g U (.nv n l del ⟨n,e,sz⟩) (.ok (.value (.slice (some ⟨w.heap.size,0,none⟩) n c)) (w.alloc (.cells (vs++rest).toArray e))):=by
 obtain ⟨τ,g',h3,hle,h4,h5,h6⟩:=(h.weaken (St.JZ U del)).nv e sz n c (vs++rest).toArray vs rest (by simp) (by
  intro u hu
  simp only [fN] at hu
  rcases hu with hu | hu
  . exact h1 u hu
  . exact h2 u hu) (by rw [hr.length,hl]) (by simp [hc]) hn vM
 refine ⟨_,_,g',τ,rfl,h3,hle,h6,?_⟩
 simp only [NV.at,aE]
 exact ⟨w.heap.size,0,c,vs,rfl,hn,vM,⟨rfl,h4⟩,h5,hr.mono hle⟩
theorem qe {w:World} (h:bp g U w) {del:Option Nat} {e:TypeId} {sz n c:Nat} {l:List AV} {vs rest:List Value} (hr:aH g l vs) (h1:∀ u ∈ vs,u.oneCell'=true) (h2:∀ u ∈ rest,u.oneCell'=true)
 (hc:vs.length+rest.length=c * sz) (hn:n <= c) (vM:c <= maxLen) :
 ay.Fits C g U (.oE n sz e del l) (.ok (.value (.slice (some ⟨w.heap.size,0,none⟩) n c)) (w.alloc (.cells (vs++rest).toArray e))):=by
 obtain ⟨b,g',h3,hle,h4,h6⟩:=(h.weaken (St.JZ U del)).db e (vs++rest).toArray vs rest l (by simp) hr (by
  intro u hu
  simp only [fN] at hu
  rcases hu with hu | hu
  . exact h1 u hu
  . exact h2 u hu)
 refine ⟨_,_,g',b,rfl,h3,hle,h6,?_⟩
 simp only [NV.at,aE]
 exact ⟨_,c,h4,rfl,hn,vM,by simp [hc],rfl⟩
theorem lZ {z:Array Value} (hz:∀ u ∈ z.toList,u.oneCell'=true) (n:Nat) (hp:0 < z.size):∀ u ∈ (Builtin.zeroCells z n).toList,u.oneCell'=true:=by
 intro u hu
 simp only [Builtin.zeroCells,Array.toList_map,List.mem_map] at hu
 obtain ⟨i,_,rfl⟩:=hu
 have aM:i % z.size < z.size:=Nat.mod_lt _ hp
 rw [getElem!_pos z _ aM]
 exact hz _ (by simp)
theorem Gu (h:bp g U w) {t u ty:TypeId} {mu:Bool} {s y:AV} {v v2:Value} (hs:aE g s v) (hy:aE g y v2) :
 ay.Fits C g U (Dz C.P t u mu s y U) ((do let r <- Builtin.append_ #[t,u] ty #[v,v2]; pure (Next.value r):Sem Next).run C.P w):=by
 have kx:∀ aN off j,(⟨aN,off,none⟩:Addr).add j=⟨aN,off+j,none⟩:=fun aN off j=>by unfold Addr.add; split <;> simp_all
 unfold Dz
 split
 . rename_i e sz m l2 G5 Ly
   intro qi
   obtain ⟨ni,d,hu,hd⟩:=MN G5
   obtain ⟨i,z,ht,hi,hz,vS,rfl,pE,Cu,hz1⟩:=iN ni
   obtain ⟨hm,us,EH,Cr,hf⟩:=RN (C:=C) h hy Ly qi
   have Hs:us.length=m * i.size:=by rw [EH.length,qi]
   have grow:∀ (base:Option Addr) (n c:Nat) (zt:List Value),(∀ W:World,W.heap=w.heap->(Builtin.firstCells i.size n (.slice base n c)).run C.P W=.ok zt.toArray W)->zt.length=n * i.size->c < n+m->n+m <= 4294967296 ->
    ∃ cap rest,n+m <= cap/\cap <= maxLen/\(∀ u ∈ rest,u.oneCell'=true)/\(zt++us).length+rest.length=cap * i.size /\
    (Builtin.append_ #[t,u] ty #[.slice base n c,v2]).run C.P w=.ok (.slice (some ⟨w.drew.heap.size,0,none⟩) (n+m) cap) (w.drew.alloc (.cells ((zt++us)++rest).toArray e)):=fun base n c zt ho Hj aM nj=>by
    have gq:=grownCap_ge w (n+m) c e
    have hle:=grownCap_le_maxLen w (n+m) c e (by unfold maxLen; omega)
    refine ⟨grownCap w (n+m) c e,(Builtin.zeroCells z.cells (grownCap w (n+m) c e - (n+m))).toList,gq,hle,lZ hz1 _ (by omega),?_,?_⟩
    . rw [cZ,Hj,Hs,sr,size_zeroCells,vS,<- Nat.add_mul,<- Nat.add_mul]
      congr 1; omega
    . rw [D2 ht hu hd hi hz Cu hm hf ho aM nj]
      congr 3
      simp
   split
   . simp only [aE] at hs
     subst hs
     split
     . rename_i h0
       subst h0
       rw [cm,oK ht hu hd hi hm (hf w rfl) (by omega)]
       exact a8 h (by simp only [aE])
     . rename_i h0
       intro nj
       obtain ⟨cap,rest,h1,h2,h3,h4,h5⟩:=grow none 0 0 [] (fun W _=>by simp [Builtin.firstCells]) (by simp) (by omega) (by omega)
       rw [cm,h5]
       have eE:=h.grow (ku w)
       simp only [dI,mw] at h1 h4 h5 ⊢
       split
       . exact qe eE EH Cr h3 h4 h1 h2
       . exact o9 eE EH Cr h3 qi h4 h1 h2
   . rename_i n l
     have uu:=hs
     simp only [aE] at hs
     obtain ⟨aN,off,c,vs,rfl,EF,vM,yX,nK,hr⟩:=hs
     simp only [ud] at yX
     subst yX
     split
     . rename_i h0
       subst h0
       rw [cm,oK ht hu hd hi hm (hf w rfl) (by omega)]
       have aeF:us=[]:=List.eq_nil_of_length_eq_zero (by simpa using Hs)
       subst aeF
       simp only [storeCells,cP,cI,Nat.add_zero]
       exact a8 h uu
     . rename_i h0
       rintro ⟨hl,nj⟩
       have fP:vs.length=c * i.size:=by rw [hr.length,hl]
       have ho:∀ W:World,W.heap=w.heap->(Builtin.firstCells i.size c (.slice (some ⟨aN,off,none⟩) c c)).run C.P W=.ok vs.toArray W:=fun W hW =>
        run_firstCells_some W i.size c ⟨aN,off,none⟩ c c vs fP (fun j u hu=>by
         rw [kx]
         have:W.cell? ⟨aN,off+j,none⟩=w.cell? ⟨aN,off+j,none⟩:=by simp [World.cell?,hW]
         rw [this]; exact (h.cC _ _ _ (nK j u hu)).1)
       obtain ⟨cap,rest,h1,h2,h3,h4,h5⟩:=grow (some ⟨aN,off,none⟩) c c vs ho fP (by omega) nj
       rw [cm,h5]
       have eE:=h.grow (ku w)
       refine o9 eE (hr.append EH) ?_ h3 (by rw [cZ,hl,qi,Nat.add_mul]) h4 h1 h2
       intro u hu
       simp only [fN] at hu
       rcases hu with hu | hu
       . obtain ⟨j,hj⟩:=List.getElem?_of_mem hu
         exact (h.cC _ _ _ (nK j u hj)).2
       . exact Cr u hu
   . rename_i n τ l
     rintro ⟨aag,hl,nj⟩
     simp only [aE] at hs
     obtain ⟨aN,off,c,vs,rfl,EF,vM,yX,nK,hr⟩:=hs
     simp only [ud] at yX
     obtain ⟨rfl,vO⟩:=yX
     obtain ⟨ad1,c',cur,k1,k2,k3,k4,k5,k6,k7⟩:=h.tok τ _ aag
     rw [vO] at k1; cases k1
     have fP:vs.length=n * i.size:=by rw [hr.length,hl]
     by_cases pt:n+m <= c
     . have oX:n * i.size+us.length <= cur.size:=by
        have e4:cur.size=c * i.size:=k4
        rw [Hs,e4,<- Nat.add_mul]; exact Nat.mul_le_mul_right _ pt
       have gD:=run_storeCells_at C.P aN (n * i.size) e us 0 cur w k3 (by simpa using oX) Cr
       simp only [Nat.add_zero] at gD
       rw [cm,oK ht hu hd hi hm (hf w rfl) pt]
       simp only [kx,dI,gD,cI]
       obtain ⟨Bj,g',t1,hle,t2,t3,t4⟩:=h.aaV aag vO cur (cur.toList.take (n * i.size)++us++cur.toList.drop (n * i.size+us.length)).toArray us m k3 Hs pt (by simp) Cr
       refine ⟨_,_,g',Bj,rfl,t1,hle,t4,?_⟩
       simp only [NV.at,aE]
       refine ⟨aN,0,c,vs++us,rfl,pt,vM,⟨rfl,t2⟩,fun j u hu=>?_,(hr.append EH).mono hle⟩
       by_cases hj:j < vs.length
       . rw [va hj] at hu
         exact (nK.mono hle) j u hu
       . rw [List.getElem?_append_right (by omega)] at hu
         have e0:n * i.size+(j - vs.length)=0+j:=by omega
         have t3':g'.cC aN (n * i.size+(j - vs.length))=some u:=t3 _ u hu
         rw [e0] at t3'
         exact t3'
     . have ho:∀ W:World,W.heap=w.heap->(Builtin.firstCells i.size n (.slice (some ⟨aN,0,none⟩) n c)).run C.P W=.ok vs.toArray W:=fun W hW =>
        run_firstCells_some W i.size n ⟨aN,0,none⟩ n c vs fP (fun j u hu=>by
         rw [kx]
         have:W.cell? ⟨aN,0+j,none⟩=w.cell? ⟨aN,0+j,none⟩:=by simp [World.cell?,hW]
         rw [this]; exact (h.cC _ _ _ (nK j u hu)).1)
       obtain ⟨cap,rest,h1,h2,h3,h4,h5⟩:=grow (some ⟨aN,0,none⟩) n c vs ho fP (by omega) nj
       rw [cm,h5]
       have eE:=h.grow (ku w)
       refine o9 eE (hr.append EH) ?_ h3 (by rw [cZ,hl,qi,Nat.add_mul]) h4 h1 h2
       intro u hu
       simp only [fN] at hu
       rcases hu with hu | hu
       . obtain ⟨j,hj⟩:=List.getElem?_of_mem hu
         exact (h.cC _ _ _ (nK j u hj)).2
       . exact Cr u hu
   . rename_i b off n jq e'
     split
     . rename_i l hb
       rintro ⟨rfl,rfl,rfl,UQ,nj⟩
       simp only [aE] at hs
       obtain ⟨x,c,hx,rfl,EF,vM,acI,hxe⟩:=hs
       obtain ⟨x',cur,vs,acZ,k1,k2,k3,k4,k5,k6,k7,k8⟩:=h.box b l hb
       rw [hx] at k1; cases k1
       have tw:cur.size=c * i.size:=by rw [k4]; omega
       have fP:=k6.length
       by_cases pt:n+m <= c
       . have oX:n * i.size+us.length <= cur.size:=by
          rw [Hs,tw,<- Nat.add_mul]; exact Nat.mul_le_mul_right _ pt
         have gD:=run_storeCells_at C.P x.aN (n * i.size) x.e us 0 cur w k3 (by simpa using oX) Cr
         simp only [Nat.add_zero] at gD
         rw [cm,oK ht hu hd hi hm (hf w rfl) pt]
         simp only [kx,dI,gD,cI]
         have e1:cur.toList.take (n * i.size)=vs.take (n * i.size):=by rw [k5,List.take_append_of_le_length (by omega)]
         have vQ:=h.setRow hb hx (l':=l.take (n * i.size)++l2) (cur.toList.take (n * i.size)++us++cur.toList.drop (n * i.size+us.length)).toArray (vs.take (n * i.size)++us) (cur.toList.drop (n * i.size+us.length)) (by
          simp only [List.size_toArray,cZ,List.length_take,List.length_drop,sr]; omega) (by simp [e1]) ((k6.take _).append EH) (by
          intro u hu
          simp only [fN] at hu
          rcases hu with (hu | hu) | hu
          . exact k7 u (List.mem_of_mem_take hu)
          . exact Cr u hu
          . exact k7 u (List.mem_of_mem_drop hu))
         obtain ⟨b',g',f1,hle,f2,f3⟩:=vQ.rename (b:=b) (x:=.box (l.take (n * i.size)++l2)) (by simp [St.cG,St.set]) hx
         have ed:(U.cG b (l.take (n * i.size)++l2)).del b=U.del b:=by
          simp only [St.cG,St.set,St.del,St.mk.injEq,and_true]
          funext y
          split <;> rfl
         rw [ed] at f1 f3
         refine ⟨_,_,g',b',rfl,f1,hle,f3,?_⟩
         simp only [NV.at,aE]
         exact ⟨x,c,f2,rfl,pt,vM,acI,hxe⟩
       . have hvn:(vs.take (n * i.size)).length=n * i.size:=by simp; omega
         have ho:∀ W:World,W.heap=w.heap->(Builtin.firstCells i.size n (.slice (some ⟨x.aN,0,none⟩) n c)).run C.P W=.ok (vs.take (n * i.size)).toArray W:=fun W hW =>
          run_firstCells_some W i.size n ⟨x.aN,0,none⟩ n c _ hvn (fun j u hu=>by
           rw [kx]
           have:W.cell? ⟨x.aN,0+j,none⟩=w.cell? ⟨x.aN,0+j,none⟩:=by simp [World.cell?,hW]
           rw [this,cell_of_row _ _ _ cur x.e (0,0) k3,dI,<- lK,k5]
           rw [List.getElem?_take] at hu
           split at hu
           . rw [va (by omega)]; exact hu
           . cases hu)
         obtain ⟨cap,rest,h1,h2,h3,h4,h5⟩:=grow (some ⟨x.aN,0,none⟩) n c _ ho hvn (by omega) nj
         rw [cm,h5]
         have eE:=h.grow (ku w)
         refine qe eE ((k6.take _).append EH) ?_ h3 h4 h1 h2
         intro u hu
         simp only [fN] at hu
         rcases hu with hu | hu
         . refine k7 u ?_
           rw [k5]
           exact List.mem_append_left _ (List.mem_of_mem_take hu)
         . exact Cr u hu
     . trivial
   . trivial
 . trivial
end
end Go.Rip
namespace Go.Rip
open Go.RowKit
section
variable {C:cT} {g:Gh} {U:St} {w:World}
def dR (yL:Int):Option AV->Option Int
 | none=>some yL
 | some (.int _ n)=>some n
 | _=>none
def sQ:nY->Option AV->nY
 | .full,none=>.full
 | _,_=>.kV
def Ik (P:Program) (t:TypeId) (x:AV) (lo hi:Option AV):ay :=
 match x with
 | .str s=>match nr P t,dR 0 lo,dR s.length hi with
   | true,some l,some h=>.cond (0 <= l/\l <= h/\h <= s.length) (.val (.str ((s.take h.toNat).drop l.toNat)))
   | _,_,_=>.bad
 | .vec n cap l=>match fj P t,dR 0 lo,dR n hi with
   | some (_,sz),some a,some b=>.cond (0 <= a/\a <= b/\b <= n) (.val (.vec (b.toNat - a.toNat) (sQ cap hi) ((l.take (b.toNat * sz)).drop (a.toNat * sz))))
   | _,_,_=>.bad
 | .aA=>match fj P t,dR 0 lo,dR 0 hi with
   | some (_,_),some a,some b=>.cond (a=0/\b=0) (.val .aA)
   | _,_,_=>.bad
 | .ms b off n jq e=>match fj P t,dR 0 lo,dR n hi with
   | some (_,sz),some a,some h=>.cond (0 <= a/\a <= h/\h <= n/\(a < n\/a=0)/\jq=sz) (.val (.ms b (off+a.toNat * sz) (h.toNat - a.toNat) jq e))
   | _,_,_=>.bad
 | _=>.bad
theorem run_sliceBound {P:Program} {x:Value} {k:IntKind} {n:Int} {y:Nat} {code:BoundsCode} (hx:x=.int k n) (h0:0 <= n) (h1:n <= y):(Instr.sliceBound x y code).run P w=.ok n.toNat w:=by
 subst hx
 simp [Instr.sliceBound,asIntOf,h0,h1]
theorem Cb {yL:Int} {o:Option AV} {v:Option Value} {n:Int} (hr:match o,v with | none,none=>True | some x,some u=>aE g x u | _,_=>False) (hb:dR yL o=some n) :
 (o=none/\v=none/\n=yL)\/∃ k u,v=some u/\u=.int k n/\∃ x,o=some x:=by
 cases o with
 | none =>
   cases v with
   | none=>simp [dR] at hb; exact .inl ⟨rfl,rfl,hb.symm⟩
   | some u=>exact hr.elim
 | some x =>
   cases v with
   | none=>exact hr.elim
   | some u =>
     cases x <;> simp only [dR,reduceCtorEq,iW] at hb
     subst hb
     simp only [aE] at hr
     exact .inr ⟨_,u,rfl,hr,_,rfl⟩
theorem nS {P:Program} {isS:Bool} {len cap:Nat} {lo hi:Option AV} {vl vh:Option Value} {a b:Int}
 (hl:match lo,vl with | none,none=>True | some x,some u=>aE g x u | _,_=>False) (hh:match hi,vh with | none,none=>True | some x,some u=>aE g x u | _,_=>False)
 (ha:dR 0 lo=some a) (hb:dR len hi=some b) (h0:0 <= a) (h1:a <= b) (h2:b <= len) (h3:len <= cap) :
 (Instr.sliceBounds isS len cap vl vh none).run P w=.ok (a.toNat,b.toNat,cap) w:=by
 rcases Cb hl ha with ⟨_,rfl,rfl⟩ | ⟨k,u,rfl,hu,_⟩ <;> rcases Cb hh hb with ⟨_,rfl,rfl⟩ | ⟨k',u',rfl,oR,_⟩
 . simp [Instr.sliceBounds]
 . have e1:∀ c,(Instr.sliceBound u' cap c).run P w=.ok b.toNat w:=fun c=>run_sliceBound oR (by omega) (by omega)
   simp [Instr.sliceBounds,e1]
 . have e1:∀ c,(Instr.sliceBound u len c).run P w=.ok a.toNat w:=fun c=>run_sliceBound hu h0 (by omega)
   simp [Instr.sliceBounds,e1]
 . have e1:∀ c,(Instr.sliceBound u' cap c).run P w=.ok b.toNat w:=fun c=>run_sliceBound oR (by omega) (by omega)
   have e2:∀ c,(Instr.sliceBound u b.toNat c).run P w=.ok a.toNat w:=fun c=>run_sliceBound hu h0 (by omega)
   simp [Instr.sliceBounds,e1,e2]
theorem JH (h:bp g U w) {t:TypeId} {x:AV} {v:Value} {lo hi:Option AV} {vl vh:Option Value} (hx:aE g x v)
 (hl:match lo,vl with | none,none=>True | some x,some u=>aE g x u | _,_=>False) (hh:match hi,vh with | none,none=>True | some x,some u=>aE g x u | _,_=>False) :
 ay.Fits C g U (Ik C.P t x lo hi) ((do let r <- Instr.sliceAt t v vl vh none; pure (Next.value r):Sem Next).run C.P w):=by
 have kx:∀ aN off j,(⟨aN,off,none⟩:Addr).add j=⟨aN,off+j,none⟩:=fun aN off j=>by unfold Addr.add; split <;> simp_all
 unfold Ik
 split
 . rename_i s
   split
   . rename_i a b ht ha hb
     rintro ⟨h0,h1,h2⟩
     simp only [aE] at hx
     subst hx
     have eH:(ByteArray.mk s.toArray).size=s.length:=by simp [ByteArray.size]
     have hr:=nS (w:=w) (P:=C.P) (isS:=false) hl hh ha hb h0 h1 h2 (gE _)
     simp only [Instr.sliceAt,Instr.slice,run_underlying (pg ht),cm,cI,eH,hr,cP,Option.isSome_none,bC,if_false]
     refine a8 h ?_
     simp only [aE]
     congr 1
     apply ByteArray.ext
     simp only [ByteArray.data_extract]
     apply Array.ext'
     simp [List.extract_eq_take_drop,List.drop_take]
   . trivial
 . rename_i n cap l
   split
   . rename_i e sz a b ht ha hb
     rintro ⟨h0,h1,h2⟩
     simp only [aE] at hx
     obtain ⟨aN,off,c,vs,rfl,EF,vM,yX,nK,hr⟩:=hx
     obtain ⟨i,z,hu,ky,hz,vS,rfl,pE,_⟩:=iN ht
     have gZ:=nS (w:=w) (P:=C.P) (isS:=true) hl hh ha hb h0 h1 h2 EF
     simp only [Instr.sliceAt,Instr.slice,run_underlying hu,cm,cI,gZ,cP,eK ky]
     refine a8 h ?_
     have acr:ud g (sQ cap hi) aN (if c=a.toNat then off else off+a.toNat * i.size) (b.toNat - a.toNat) (c - a.toNat):=by
      cases cap with
      | full =>
        cases hi with
        | none =>
          simp only [sQ,ud] at yX ⊢
          simp only [dR,iW] at hb
          omega
        | some y=>trivial
      | own τ=>trivial
      | kV=>trivial
     simp only [aE]
     refine ⟨aN,if c=a.toNat then off else off+a.toNat * i.size,c - a.toNat,(vs.take (b.toNat * i.size)).drop (a.toNat * i.size),?_,by omega,by omega,acr,?_,(hr.take _).drop _⟩
     . simp only [Option.map_some,kx]
       split <;> rfl
     . split
       . rename_i e1
         have:(vs.take (b.toNat * i.size)).drop (a.toNat * i.size)=[]:=by
          rw [List.drop_eq_nil_iff]
          have:b.toNat <= a.toNat:=by omega
          have:=Nat.mul_le_mul_right i.size this
          simp; omega
         rw [this]; intro j u hu; simp at hu
       . intro j u hu
         rw [List.getElem?_drop,List.getElem?_take] at hu
         split at hu
         . have:=nK _ u hu
           rw [Nat.add_assoc]; exact this
         . cases hu
   . trivial
 . split
   . rename_i e sz a b ht ha hb
     rintro ⟨rfl,rfl⟩
     simp only [aE] at hx
     subst hx
     obtain ⟨i,z,hu,ky,hz,vS,rfl,pE,_⟩:=iN ht
     have gZ:=nS (w:=w) (P:=C.P) (isS:=true) (len:=0) (cap:=0) hl hh ha (by simpa using hb) (by omega) (by omega) (by simp) (gE _)
     simp only [Instr.sliceAt,Instr.slice,run_underlying hu,cm,cI,gZ,cP,eK ky]
     refine a8 h (by simp [aE])
   . trivial
 . rename_i b off n jq e
   split
   . rename_i e' sz a hh' ht ha hb
     rintro ⟨h0,h1,h2,h3,rfl⟩
     simp only [aE] at hx
     obtain ⟨y,c,hy,rfl,EF,vM,eH,hxe⟩:=hx
     obtain ⟨i,z,hu,ky,hz,vS,rfl,pE,_⟩:=iN ht
     have gZ:=nS (w:=w) (P:=C.P) (isS:=true) hl hh ha hb h0 h1 h2 EF
     simp only [Instr.sliceAt,Instr.slice,run_underlying hu,cm,cI,gZ,cP,eK ky]
     refine a8 h ?_
     simp only [aE]
     have e2:off+a.toNat * i.size+(c - a.toNat) * i.size=y.size:=by
      have:a.toNat * i.size+(c - a.toNat) * i.size=c * i.size:=by rw [<- Nat.add_mul]; congr 1; omega
      omega
     refine ⟨y,c - a.toNat,hy,?_,by omega,by omega,e2,hxe⟩
     simp only [Option.map_some,kx]
     split
     . rename_i e1
       have h0a:a.toNat=0:=by omega
       simp [h0a]
     . rfl
   . trivial
 . trivial
def hY (op:UnOp) (x:AV):ay :=
 match op,x with
 | .not,.bool b=>.val (.bool (!b))
 | .neg,.int k n=>iP k (0 - n)
 | _,_=>.bad
theorem IS (h:bp g U w) (k:IntKind) (n:Int):ay.Fits C g U (iP k n) (.ok (.value (.int k (k.wrap n))) w):=by
 unfold iP
 split
 . intro hi
   rw [x8 hi]
   exact a8 h (by simp only [aE])
 . exact a8 h (by simp only [aE])
theorem Uf (h:bp g U w) {op:UnOp} {x:AV} {v:Value} (hx:aE g x v):ay.Fits C g U (hY op x) ((do let r <- Op.unary op v; pure (Next.value r):Sem Next).run C.P w):=by
 unfold hY
 split
 . simp only [aE] at hx; subst hx
   exact a8 h (by simp only [aE])
 . simp only [aE] at hx; subst hx
   simp only [Op.unary,Op.intArith,cm,cP,cI]
   exact IS h _ _
 . trivial
def LC (P:Program) (t:TypeId):Option IntKind:=match P.underlying t with | some (.int k)=>some k | _=>none
def wW (P:Program) (t:TypeId):Bool:=match P.underlying t with
 | some (.slice e)=>match P.underlying e with
   | some (.int .u8)=>true
   | _=>false
 | _=>false
theorem FT {P:Program} {t:TypeId} (h:wW P t=true):∃ e,P.underlying t=some (.slice e)/\P.underlying e=some (.int .u8):=by
 unfold wW at h
 split at h
 . rename_i e he
   split at h
   . rename_i hu; exact ⟨e,he,hu⟩
   . cases h
 . cases h
def F1 (P:Program) (src dst:TypeId) (x:AV):ay :=
 match LC P dst,(P.underlying src).isSome,x with
 | some .i64,true,.int _ n=>.cond (uf n) (.val (.int .i64 n))
 | some k,true,.int _ n=>.val (.int k (k.wrap n))
 | none,true,.str s=>if nr P dst=true/\nr P src=true then .val (.str s) else
   if wW P dst=true/\nr P src=true then .cond (s.length <= 4294967296) (.val (.vec s.length .kV (s.map fun b=>.int .u8 b.toNat))) else .bad
 | _,_,_=>.bad
theorem FX (h:bp g U w) {src dst e:TypeId} {s:List UInt8} (hd:C.P.underlying dst=some (.slice e)) (he:C.P.underlying e=some (.int .u8)) (hs:C.P.underlying src=some .string) (hlen:s.length <= 4294967296) :
 ay.Fits C g U (.val (.vec s.length .kV (s.map fun b=>.int .u8 b.toNat))) ((do let r <- convert src dst (.string ⟨s.toArray⟩); pure (Next.value r):Sem Next).run C.P w):=by
 have gZ:=Lib.run_convert_string_bytes (P:=C.P) w src dst e ⟨s.toArray⟩ hs hd he
 have eH:(ByteArray.mk s.toArray).size=s.length:=by simp [ByteArray.size]
 rw [eH] at gZ
 have gq:=grownCap_ge w s.length 0 e
 have hle:=grownCap_le_maxLen w s.length 0 e (by unfold maxLen; omega)
 let vs:List Value:=s.map fun b=>.int .u8 b.toNat
 let g':Gh:={ g with cC:=fun aN o=>if aN=w.heap.size then vs[o]? else g.cC aN o }
 have sj:∀ o,g'.cC w.heap.size o=vs[o]?:=fun o=>by show (if w.heap.size=w.heap.size then _ else _)=_; rw [if_pos rfl]
 have hold:∀ aN o,aN ≠ w.heap.size->g'.cC aN o=g.cC aN o:=fun aN o hx=>by show (if aN=w.heap.size then _ else _)=_; rw [if_neg hx]
 have Lt:Gh.Le g g':=⟨rfl,rfl,fun _ _ h=>h,fun aN o u hu=>by
  rw [hold _ _ (fun e=>by subst e; rw [h.Ak (gE _)] at hu; cases hu)]; exact hu,fun _ _ h=>h,fun _ h=>h,fun q o hq=>hold _ _ (by have:=h.le; omega),fun _ _=>rfl⟩
 have eE:bp g' U (Lib.bytesWorld w e ⟨s.toArray⟩):=by
  refine h.change w.heap.size h.le Lt rfl rfl ⟨rfl,rfl,rfl,by rw [Lib.bytesWorld_size]; omega⟩ (fun k _ hk=>Lib.bytesWorld_at_old w e _ k hk) hold (fun _ _=>rfl) (fun o u hu=>?_) (fun es c hr=>?_) (fun b x p k1 k2=>Nat.ne_of_lt (h.xp k1 k2)) (h.D1 (gE _))
  . rw [sj] at hu
    simp only [vs,mr,o1] at hu
    obtain ⟨b,hb,rfl⟩:=hu
    have aM:=(de.1 hb).1
    refine ⟨?_,rfl⟩
    rw [Lib.bytesWorld_cell w e ⟨s.toArray⟩ o (by rw [eH]; exact aM)]
    simp [List.getD,hb]
  . have:g.cj w.heap.size=some (es,c):=hr
    rw [h.wS (gE _)] at this; cases this
 simp only [cm,gZ,cI,cP]
 refine ⟨_,_,g',.inl rfl,Lt,eE,?_⟩
 simp only [aE]
 refine ⟨w.heap.size,0,_,vs,rfl,gq,hle,trivial,fun i u hu=>by rw [dI,sj]; exact hu,?_⟩
 refine aH.CT (by simp [vs]) fun i x v hx hv=>?_
 simp only [vs,mr,o1] at hx hv
 obtain ⟨b,hb,rfl⟩:=hx
 obtain ⟨b',eT,rfl⟩:=hv
 rw [hb] at eT; cases eT
 simp only [aE]
theorem La (h:bp g U w) {src dst:TypeId} {x:AV} {v:Value} (hx:aE g x v):ay.Fits C g U (F1 C.P src dst x) ((do let r <- convert src dst v; pure (Next.value r):Sem Next).run C.P w):=by
 unfold F1
 split
 . rename_i k n hk hs
   simp only [aE] at hx; subst hx
   have hu:C.P.underlying dst=some (.int .i64):=by unfold LC at hk; split at hk <;> simp_all
   obtain ⟨d,hd⟩:=Option.isSome_iff_exists.1 hs
   intro hi
   simp only [convert,run_underlying hu,run_underlying hd,cm,cP,cI,Conv.intToInt]
   rw [x8 hi]
   exact a8 h (by simp only [aE])
 . rename_i k _ n _ hk hs
   simp only [aE] at hx; subst hx
   have hu:C.P.underlying dst=some (.int k):=by unfold LC at hk; split at hk <;> simp_all
   obtain ⟨d,hd⟩:=Option.isSome_iff_exists.1 hs
   simp only [convert,run_underlying hu,run_underlying hd,cm,cP,cI,Conv.intToInt]
   exact a8 h (by simp only [aE])
 . split
   . rename_i hc
     simp only [aE] at hx; subst hx
     simp only [convert,run_underlying (pg hc.1),run_underlying (pg hc.2),cm,cP,cI]
     exact a8 h (by simp only [aE])
   . split
     . rename_i hc
       intro hlen
       simp only [aE] at hx; subst hx
       obtain ⟨e,hd,he⟩:=FT hc.1
       exact FX h hd he (pg hc.2) hlen
     . trivial
 . trivial
def zq (P:Program) (t:TypeId):Bool:=match P.underlying t with | some (.interface _)=>false | some _=>true | none=>false
def xj (P:Program) (t:TypeId) (x:AV):ay:=if zq P t=true then .val (.iface t x) else .bad
theorem CO (h:bp g U w) {t:TypeId} {x:AV} {v:Value} (hx:aE g x v):ay.Fits C g U (xj C.P t x) ((do let r <- Instr.makeInterface t v; pure (Next.value r):Sem Next).run C.P w):=by
 unfold xj
 split
 . rename_i hc
   unfold zq at hc
   split at hc
   . cases hc
   . rename_i d hn hd
     simp only [Instr.makeInterface,run_underlying hd,cm,cI]
     cases d
     case interface=>exact (hn _ rfl).elim
     all_goals
      simp only [cP,cI]
      exact a8 h (by simp only [aE]; exact ⟨v,rfl,hx⟩)
   . cases hc
 . trivial
def aV (x:AV) (i:Nat):ay :=
 match x with
 | .aG l=>iH (l.drop i)
 | _=>.bad
theorem FO (h:bp g U w) {x:AV} {v:Value} (hx:aE g x v) (i:Nat):ay.Fits C g U (aV x i) ((do let r <- Instr.extract v i; pure (Next.value r):Sem Next).run C.P w):=by
 unfold aV
 split
 . rename_i l
   simp only [aE] at hx
   obtain ⟨vs,rfl,hr⟩:=hx
   cases hd:l.drop i with
   | nil=>trivial
   | cons y ys =>
     have hy:l[i]?=some y:=by
      have:=congrArg (fun l=>l[0]?) hd
      simpa using this
     obtain ⟨u,hu,hyu⟩:=hr.get hy
     have e:vs.toArray[i]?=some u:=by simpa using hu
     simp only [Instr.extract,e,cm,cP,cI]
     exact a8 h hyu
 . trivial
def zw (x:AV):ay :=
 match x with
 | .iface t v=>.panic (.iface t v)
 | _=>.bad
theorem Jr (h:bp g U w) {x:AV} {v:Value} (hx:aE g x v):ay.Fits C g U (zw x) ((do let r <- Instr.panic v; pure (Next.value r):Sem Next).run C.P w):=by
 unfold zw
 split
 . have ji:=hx
   simp only [aE] at hx
   obtain ⟨u,rfl,hu⟩:=hx
   simp only [Instr.panic,cm,run_goPanic,Result.andThen_halt]
   exact ⟨_,w,rfl,h,ji⟩
 . trivial
theorem DS (h:bp g U w) {ev:Operand->Value} {o:Oper} {X:Operand} {x:AV} (ho:o.op=.nilCheck X) (hx:aE g x (ev X)):ay.Fits C g U (bR x) ((execOp ev o).run C.P w):=by
 unfold bR
 split
 . have ji:=hx
   simp only [aE] at hx
   obtain ⟨y,_,hv⟩:=hx
   simp only [execOp,ho,hv,cP]
   rw [hv] at ji
   exact a8 h ji
 . have ji:=hx
   simp only [aE] at hx
   obtain ⟨_,_,_,hv,_⟩:=hx
   simp only [execOp,ho,hv,cP]
   rw [hv] at ji
   exact a8 h ji
 . have ji:=hx
   simp only [aE] at hx
   obtain ⟨_,_,hv,_⟩:=hx
   simp only [execOp,ho,hv,cP]
   rw [hv] at ji
   exact a8 h ji
 . trivial
def LJ (P:Program) (t:TypeId):Option Bool :=
 match P.underlying t with
 | some .string=>some true
 | some (.slice _)=>some false
 | _=>none
def HF (P:Program) (t:TypeId) (x:AV) (U:St):ay :=
 match LJ P t,x with
 | some true,.str s=>.val (.int .i64 s.length)
 | some false,.vec n _ _=>.val (.int .i64 n)
 | some false,.ms _ _ n _ _=>.val (.int .i64 n)
 | some false,.aA=>.val (.int .i64 0)
 | _,_=>.bad
theorem ux {P:Program} {t:TypeId} {b:Bool} (h:LJ P t=some b):(b=true/\P.underlying t=some .string)\/(b=false/\∃ e,P.underlying t=some (.slice e)):=by
 unfold LJ at h
 split at h
 . rename_i e; simp at h; exact .inl ⟨h,e⟩
 . rename_i e' e; simp at h; exact .inr ⟨h,_,e⟩
 . cases h
theorem Ol (h:bp g U w) {t ty:TypeId} {x:AV} {v:Value} (hx:aE g x v):ay.Fits C g U (HF C.P t x U) ((do let r <- Builtin.len_ #[t] ty #[v]; pure (Next.value r):Sem Next).run C.P w):=by
 unfold HF
 split
 . rename_i s Hr
   have hu:C.P.underlying t=some .string:=by rcases ux Hr with ⟨_,h⟩ | ⟨h,_⟩ <;> first | exact h | cases h
   simp only [aE] at hx; subst hx
   have eH:(ByteArray.mk s.toArray).size=s.length:=by simp [ByteArray.size]
   simp [Builtin.len_,run_underlying hu,goInt,eH]
   exact a8 h (by simp only [aE])
 . rename_i Hr
   obtain ⟨e0,hu⟩:∃ e,C.P.underlying t=some (.slice e):=by rcases ux Hr with ⟨h,_⟩ | ⟨_,h⟩ <;> first | exact h | cases h
   simp only [aE] at hx
   obtain ⟨_,_,_,_,rfl,_⟩:=hx
   simp [Builtin.len_,run_underlying hu,goInt]
   exact a8 h (by simp only [aE])
 . rename_i Hr
   obtain ⟨e0,hu⟩:∃ e,C.P.underlying t=some (.slice e):=by rcases ux Hr with ⟨h,_⟩ | ⟨_,h⟩ <;> first | exact h | cases h
   simp only [aE] at hx
   obtain ⟨_,_,_,rfl,_⟩:=hx
   simp [Builtin.len_,run_underlying hu,goInt]
   exact a8 h (by simp only [aE])
 . rename_i Hr
   obtain ⟨e0,hu⟩:∃ e,C.P.underlying t=some (.slice e):=by rcases ux Hr with ⟨h,_⟩ | ⟨_,h⟩ <;> first | exact h | cases h
   simp only [aE] at hx; subst hx
   simp [Builtin.len_,run_underlying hu,goInt]
   exact a8 h (by simp only [aE])
 . trivial
def u5 (x y:AV):ay :=
 match x,y with
 | .int k a,.int k' b=>if k=k' then .val (.int k (if b < a then b else a)) else .bad
 | _,_=>.bad
def Bz (x y:AV):ay :=
 match x,y with
 | .int k a,.int k' b=>if k=k' then .val (.int k (if b > a then b else a)) else .bad
 | _,_=>.bad
theorem Ou (h:bp g U w) {ts:Array TypeId} {ty:TypeId} {x y:AV} {v u:Value} (hx:aE g x v) (hy:aE g y u):ay.Fits C g U (Bz x y) ((do let r <- Builtin.max_ ts ty #[v,u]; pure (Next.value r):Sem Next).run C.P w):=by
 unfold Bz
 split
 . split
   . rename_i e; subst e
     simp only [aE] at hx hy; subst hx hy
     simp [Builtin.max_,Builtin.max2]
     exact a8 h (by simp only [aE])
   . trivial
 . trivial
theorem Ov (h:bp g U w) {ts:Array TypeId} {ty:TypeId} {x y:AV} {v u:Value} (hx:aE g x v) (hy:aE g y u):ay.Fits C g U (u5 x y) ((do let r <- Builtin.min_ ts ty #[v,u]; pure (Next.value r):Sem Next).run C.P w):=by
 unfold u5
 split
 . split
   . rename_i e; subst e
     simp only [aE] at hx hy; subst hx hy
     simp [Builtin.min_,Builtin.min2]
     exact a8 h (by simp only [aE])
   . trivial
 . trivial
end
end Go.Rip
namespace Go.Rip
open Go.RowKit
section
variable {C:cT} {g:Gh} {U:St} {w:World}
def gG (place:Nat->Option (Nat × Nat)):List (Nat × AV)->List AV->(List AV->ay)->ay
 | [],z,k=>k z
 | (i,x)::rest,z,k=>match place i with
   | some (off,size)=>.cond (x.eF=true/\(aC x).length=size/\off+size <= z.length) (gG place rest (aK z off (aC x)) k)
   | none=>.bad
theorem yS (off:Nat):∀ (l:List Value) (j:Nat) (cs:Array Value),off+j+l.length <= cs.size ->
 ((l.zipIdx j).foldl (fun (cs:Array Value) (p:Value × Nat)=>cs.setIfInBounds (off+p.2) p.1) cs).toList=cs.toList.take (off+j)++l++cs.toList.drop (off+j+l.length)
 | [],j,cs,_=>by simp
 | v::l,j,cs,hle=>by
   simp only [List.zipIdx_cons,List.foldl_cons]
   simp only [gu] at hle
   rw [yS off l (j+1) _ (by simp; omega)]
   have hs:=list_seg_step cs.toList (off+j) v l (by simpa using hle)
   rw [Array.toList_setIfInBounds]
   rw [show off+(j+1)=off+j+1 from rfl]
   exact hs
theorem uj {place:Nat->Option (Nat × Nat)} {k:List AV->ay} {kk:Array Value->Sem Value} {S:String}
 (hk:∀ (z:List AV) (cs:Array Value),aH g z cs.toList->(∀ u ∈ cs.toList,u.oneCell'=true)->ay.Fits C g U (k z) ((do let r <- kk cs; pure (Next.value r):Sem Next).run C.P w)) :
 ∀ (parts:List (Nat × AV)) (vs:List (Nat × Value)) (z:List AV) (cs:Array Value),vs.length=parts.length->(∀ (i:Nat) (p:Nat × AV) (q:Nat × Value),parts[i]?=some p->vs[i]?=some q->p.1=q.1/\aE g p.2 q.2) ->
  aH g z cs.toList->(∀ u ∈ cs.toList,u.oneCell'=true) ->
  ay.Fits C g U (gG place parts z k) ((do let r <- (match Instr.fill place cs vs with | some Cg=>kk Cg | none=>stuck S); pure (Next.value r):Sem Next).run C.P w)
 | [],[],z,cs,_,_,hz,h1=>by
   simp only [gG,Instr.fill]
   exact hk z cs hz h1
 | [],_::_,_,_,h,_,_,_=>by simp at h
 | _::_,[],_,_,h,_,_,_=>by simp at h
 | (i,x)::parts,(j,v)::vs,z,cs,hl,hp,hz,h1=>by
   obtain ⟨rfl,hx⟩:=hp 0 _ _ rfl rfl
   dsimp only at hx ⊢
   simp only [gG]
   cases ll:place i with
   | none=>trivial
   | some os =>
     obtain ⟨off,size⟩:=os
     rintro ⟨a1,a2,a3⟩
     obtain ⟨uq,AP⟩:=yH hx a1
     have hlen:=uq.length
     have Hu:=hz.length
     have zb:v.cells.size=size:=by rw [<- sr,hlen,a2]
     have hcz:off+v.cells.size <= cs.size:=by rw [zb,<- sr,Hu]; exact a3
     have e:(v.cells.zipIdx.foldl (fun (cs:Array Value) (p:Value × Nat)=>cs.setIfInBounds (off+p.2) p.1) cs).toList=cs.toList.take off++v.cells.toList++cs.toList.drop (off+v.cells.toList.length):=by
      rw [<- Array.foldl_toList,Array.toList_zipIdx]
      have:=yS off v.cells.toList 0 cs (by simpa using hcz)
      simpa using this
     have acs:(v.cells.size ≠ size || off+v.cells.size > cs.size)=false:=by simp [zb]; omega
     simp only [Instr.fill,ll]
     rw [if_neg (by rw [acs]; simp)]
     refine uj hk parts vs _ _ (by simpa using hl) (fun i p q h2 h3=>hp (i+1) p q (by simpa using h2) (by simpa using h3)) ?_ ?_
     . show aH g (aK z off (aC x)) (v.cells.zipIdx.foldl (fun (cs:Array Value) (p:Value × Nat)=>cs.setIfInBounds (off+p.2) p.1) cs).toList
       rw [e]
       unfold aK
       rw [hlen]
       exact ((hz.take _).append uq).append (hz.drop _)
     . show ∀ u ∈ (v.cells.zipIdx.foldl (fun (cs:Array Value) (p:Value × Nat)=>cs.setIfInBounds (off+p.2) p.1) cs).toList,u.oneCell'=true
       rw [e]
       intro u hu
       simp only [fN] at hu
       rcases hu with (hu | hu) | hu
       . exact h1 u (List.mem_of_mem_take hu)
       . exact AP u hu
       . exact h1 u (List.mem_of_mem_drop hu)
def mg (C:cT) (ρ:Env) (parts:Array (Nat × Operand)):List (Nat × AV):=parts.toList.map fun p=>(p.1,ρ.ev C p.2)
def GA (P:Program) (t:TypeId) (parts:List (Nat × AV)):ay :=
 match Ay P t,pC P t with
 | some pl,some z=>gG (fun i=>pl[i]?) parts z fun z=>.val (.agg z)
 | none,some z=>match uS P t with
   | some (_,_,sz)=>gG (fun i=>some (i * sz,sz)) parts z fun z=>.val (.agg z)
   | none=>.bad
 | _,_=>.bad
theorem Ip {P:Program} {t:TypeId} {pl:List (Nat × Nat)} (h:Ay P t=some pl):∃ fs:Array Field,P.underlying t=some (.struct fs)/\pl=fs.toList.map (fun f=>(f.offset,P.cellsOf f.type)) /\
 (fs.mapM (fun f=>do pure (f.offset,<- sizeOf f.type):Field->Sem (Nat × Nat))).run P w=.ok pl.toArray w:=by
 unfold Ay at h
 split at h
 . rename_i fs hu
   split at h
   . rename_i bA
     simp only [iW] at h
     refine ⟨fs,hu,h.symm,?_⟩
     rw [Array.mapM_eq_mapM_toList]
     rw [Array.all_eq_true_iff_forall_mem] at bA
     have key:∀ l:List Field,(∀ f ∈ l,(P.info? f.type).isSome=true)->(l.mapM (fun f=>do pure (f.offset,<- sizeOf f.type):Field->Sem (Nat × Nat))).run P w=.ok (l.map fun f=>(f.offset,P.cellsOf f.type)) w:=by
      intro l
      induction l with
      | nil=>intro _; simp
      | cons f l ih =>
        intro hf
        obtain ⟨i,hi⟩:=Option.isSome_iff_exists.1 (hf f (by simp))
        have ih':=ih fun x hx=>hf x (by simp [hx])
        have hc:P.cellsOf f.type=i.size:=by simp [Program.cellsOf,hi]
        simp only [List.mapM_cons,cm,eK hi,cI,cP,ih',dV,hc]
     have:=key fs.toList (fun f hf=>bA f (by simpa using hf))
     simp only [Sem.run_map,this,cI,h]
   . cases h
 . cases h
theorem IW (h:bp g U w) {t:TypeId} {parts:List (Nat × AV)} {vs:Array (Nat × Value)} (hl:vs.size=parts.length) (hp:∀ (i:Nat) (p:Nat × AV) (q:Nat × Value),parts[i]?=some p->vs[i]?=some q->p.1=q.1/\aE g p.2 q.2) :
 ay.Fits C g U (GA C.P t parts) ((do let r <- Instr.build t vs; pure (Next.value r):Sem Next).run C.P w):=by
 unfold GA
 split
 . rename_i pl z hs hz
   obtain ⟨fs,hu,ll,gZ⟩:=Ip (w:=w) hs
   obtain ⟨i,zv,hi,tH,hm⟩:=mY hz
   obtain ⟨h1,h2⟩:=eJ (g:=g) hm
   have key:=uj (C:=C) (g:=g) (U:=U) (w:=w) (place:=fun i=>pl.toArray[i]?) (k:=fun z=>.val (.agg z)) (kk:=fun cs=>pure (.agg cs)) (S := "build: no such field, or a part of the wrong size") (fun z cs hz h1=>by
    simp only [cm,cP,cI]
    exact a8 h (by simp only [aE]; exact ⟨cs.toList,by simp,h1,hz⟩)) parts vs.toList z zv.cells (by simpa using hl) (fun i p q h1 h2=>hp i p q h1 (by simpa using h2)) h1 h2
   have e:(fun i:Nat=>pl.toArray[i]?)=fun i=>pl[i]?:=by funext i; simp
   rw [<- e]
   simp only [Instr.build,cm,gK hi tH,cI,run_underlying hu,gZ]
   cases hf:Instr.fill (fun i:Nat=>pl.toArray[i]?) zv.cells vs.toList with
   | none=>simp only [hf,cm,run_stuck,Result.andThen_halt] at key ⊢; exact key
   | some Cg=>simp only [hf,cm,cP,cI] at key ⊢; exact key
 . rename_i z hs hz
   split
   . rename_i n e sz ha
     obtain ⟨ie,hu,hie,eH⟩:=ug ha
     obtain ⟨i,zv,hi,tH,hm⟩:=mY hz
     obtain ⟨h1,h2⟩:=eJ (g:=g) hm
     have key:=uj (C:=C) (g:=g) (U:=U) (w:=w) (place:=fun i=>some (i * sz,sz)) (k:=fun z=>.val (.agg z)) (kk:=fun cs=>pure (.agg cs)) (S := "build: a part of the wrong size") (fun z cs hz h1=>by
      simp only [cm,cP,cI]
      exact a8 h (by simp only [aE]; exact ⟨cs.toList,by simp,h1,hz⟩)) parts vs.toList z zv.cells (by simpa using hl) (fun i p q h1 h2=>hp i p q h1 (by simpa using h2)) h1 h2
     simp only [Instr.build,cm,gK hi tH,cI,run_underlying hu,eK hie,eH]
     cases hf:Instr.fill (fun i:Nat=>some (i * sz,sz)) zv.cells vs.toList with
     | none=>simp only [hf,cm,run_stuck,Result.andThen_halt] at key ⊢; exact key
     | some Cg=>simp only [hf,cm,cP,cI] at key ⊢; exact key
   . trivial
 . trivial
end
end Go.Rip
namespace Go.Rip
open Go.RowKit
section
variable {C:cT} {g:Gh} {U:St} {w:World}
def cN:Nat->List AV->List AV
 | 0,_=>[]
 | n+1,z=>z++cN n z
theorem kZ (z:List AV):∀ n,(cN n z).length=n * z.length
 | 0=>by simp [cN]
 | n+1=>by simp [cN,kZ z n,Nat.add_mul]; omega
theorem tb {z:List AV} {zv:Array Value} (hz:aH g z zv.toList):∀ n,aH g (cN n z) ((Array.range (n * zv.size)).map (zv[· % zv.size]!)).toList:=fun n=>by
 have hl:z.length=zv.size:=by rw [<- hz.length]; simp
 refine aH.CT (by simp [kZ,hl]) fun i x v hx hv=>?_
 have key:∀ n i x,(cN n z)[i]?=some x->z[i % zv.size]?=some x:=fun n=>by
  induction n with
  | zero=>intro i x hx; simp [cN] at hx
  | succ n ih =>
    intro i x hx
    simp only [cN] at hx
    by_cases hi:i < z.length
    . rw [va hi] at hx
      rw [Nat.mod_eq_of_lt (by omega)]; exact hx
    . rw [List.getElem?_append_right (by omega)] at hx
      have:=ih _ _ hx
      rw [hl,<- Nat.mod_eq_sub_mod (by omega)] at this
      exact this
 have ji:=key n i x hx
 obtain ⟨u,hu,hr⟩:=hz.get ji
 simp only [Array.toList_map,mr,o1] at hv
 obtain ⟨j,hj,rfl⟩:=hv
 have G8:j=i:=by
  rw [lK,Array.getElem?_range] at hj
  split at hj
  . simp at hj; exact hj.symm
  . cases hj
 subst G8
 have aM:j % zv.size < zv.size:=by
  have:=(de.1 hu).1
  simpa using this
 rw [getElem!_pos zv _ aM]
 rw [lK,getElem?_pos zv _ aM] at hu
 cases hu
 exact hr
def ri (P:Program) (t:TypeId) (n:Nat) (mu:Bool) (parts:List (Nat × AV)):ay :=
 match fj P t with
 | some (e,sz)=>match pC P e with
   | some z=>.cond (n * sz <= 16777216) (gG (fun i=>some (i * sz,sz)) parts (cN n z) fun cs=>.cond (cs.length=n * sz) (if mu then .oE n sz e none cs else .val (.vec n .full cs)))
   | none=>.bad
 | none=>.bad
theorem Bo (h:bp g U w) {t:TypeId} {n:Nat} {mu:Bool} {parts:List (Nat × AV)} {vs:Array (Nat × Value)} (hl:vs.size=parts.length) (hp:∀ (i:Nat) (p:Nat × AV) (q:Nat × Value),parts[i]?=some p->vs[i]?=some q->p.1=q.1/\aE g p.2 q.2) :
 ay.Fits C g U (ri C.P t n mu parts) ((do let r <- Instr.buildSlice t n vs; pure (Next.value r):Sem Next).run C.P w):=by
 unfold ri
 split
 . rename_i e sz hs
   split
   . rename_i z hz
     intro hn
     obtain ⟨i,zv,hu,hi,og,vS,rfl,pE,_,h1⟩:=iN hs
     obtain ⟨i',zv',ky,tH,hm⟩:=mY hz
     rw [hi] at ky; cases ky
     rw [og] at tH; cases tH
     obtain ⟨h1,h2⟩:=eJ (g:=g) hm
     have Hi:¬ (n * i.size > 2 ^ 24):=by omega
     have hzc:=tb (g:=g) h1 n
     have key:=uj (C:=C) (g:=g) (U:=U) (w:=w) (place:=fun j=>some (j * i.size,i.size)) (k:=fun cs=>.cond (cs.length=n * i.size) (if mu then .oE n i.size e none cs else .val (.vec n .full cs)))
      (kk:=fun cs=>do pure (.slice (some (<- newRow e cs)) n n)) (S := "buildSlice: a part of the wrong size") (fun z cs hz uq=>by
      intro hlen
      have tw:cs.size=n * i.size:=by rw [<- sr,hz.length,hlen]
      have EG:n <= maxLen:=by
       have:n <= n * i.size:=Nat.le_mul_of_pos_right _ pE
       unfold maxLen; omega
      simp only [newRow,cm,cP,run_newObj,cI]
      split
      . have:=qe (C:=C) (del:=none) (e:=e) (sz:=i.size) (n:=n) (c:=n) h (vs:=cs.toList) (rest:=[]) hz uq (by simp) (by simp [tw]) (gE _) EG
        simpa using this
      . obtain ⟨g',hle,nK,_,_,eE⟩:=h.Oz e cs cs.toList [] (by simp) uq
        refine ⟨_,_,g',.inl rfl,hle,eE,?_⟩
        simp only [aE]
        exact ⟨w.heap.size,0,n,cs.toList,rfl,gE _,EG,rfl,nK,hz.mono hle⟩) parts vs.toList (cN n z) ((Array.range (n * zv.cells.size)).map (zv.cells[· % zv.cells.size]!)) (by simpa using hl) (fun i p q h1 h2=>hp i p q h1 (by simpa using h2)) hzc (by
        intro u hu
        simp only [Array.toList_map,List.mem_map] at hu
        obtain ⟨j,_,rfl⟩:=hu
        have aM:j % zv.cells.size < zv.cells.size:=Nat.mod_lt _ (by omega)
        rw [getElem!_pos zv.cells _ aM]
        exact h2 _ (by simp))
     simp only [Instr.buildSlice,cm,run_underlying hu,eK hi,cI,if_neg Hi,eZ,gK hi og,cP]
     by_cases h0:n * i.size=0
     . have y7:n=0:=by
        rcases Nat.mul_eq_zero.1 h0 with h | h
        . exact h
        . omega
       subst y7
       simp only [Nat.zero_mul,if_true,cI] at key ⊢
       have e1:(Array.range 0).map ((#[]:Array Value)[· % (#[]:Array Value).size]!)=(Array.range 0).map (zv.cells[· % zv.cells.size]!):=by simp
       rw [e1]
       cases hf:Instr.fill (fun j=>some (j * i.size,i.size)) ((Array.range 0).map (zv.cells[· % zv.cells.size]!)) vs.toList with
       | none=>simp only [hf,cm,run_stuck,Result.andThen_halt] at key ⊢; exact key
       | some Cg=>simp only [hf,cm,cP,cI] at key ⊢; exact key
     . simp only [if_neg h0,cI]
       rw [vS] at key ⊢
       cases hf:Instr.fill (fun j=>some (j * i.size,i.size)) ((Array.range (n * i.size)).map (zv.cells[· % i.size]!)) vs.toList with
       | none=>simp only [hf,cm,run_stuck,Result.andThen_halt] at key ⊢; exact key
       | some Cg=>simp only [hf,cm,cP,cI] at key ⊢; exact key
   . trivial
 . trivial
def qn (P:Program) (t:TypeId):Option (FK × TypeId) :=
 match P.underlying t with
 | some (.map k e)=>match P.underlying k with
   | some (.int _)=>some (.i,e)
   | some .string=>some (.s,e)
   | _=>none
 | _=>none
def iA:FK->AV->AV->Option Bool
 | .i,.int k a,.int k' b=>if k=k' then some (a == b) else none
 | .s,.str a,.str b=>some (a == b)
 | _,_,_=>none
def uv:FK->AV->Bool
 | .i,.int _ _=>true
 | .s,.str _=>true
 | _,_=>false
def lX (fk:FK) (k:AV):List AV->Nat->Option (Option Nat)
 | [],_=>some none
 | y::ys,i=>match iA fk k y with
   | none=>none
   | some b=>if b=true then some (some i) else lX fk k ys (i+1)
def gN (k v:AV):List AV->List AV->List AV × List AV
 | [],_=>([k],[v])
 | y::ys,ws=>if jy k y=true then (k::y::ys,v::ws) else
   match ws with
   | []=>([k],[v])
   | x::xs=>(y::(gN k v ys xs).1,x::(gN k v ys xs).2)
def qo (P:Program) (t:TypeId) (m k v:AV) (U:St):ay :=
 match qn P t,m with
 | some (fk,_),.mp id=>match U.mp id with
   | some (ks,vs)=>match lX fk k ks 0,uv fk k with
     | some none,true=>.ir (.aG []) id (.mp (gN k v ks vs).1 (gN k v ks vs).2)
     | some (some i),true=>.ir (.aG []) id (.mp ks (vs.set i v))
     | _,_=>.bad
   | none=>.bad
 | _,_=>.bad
def mL (U:St):AV->Option (List AV × List AV)
 | .mp id=>U.mp id
 | .gb ks vs=>some (ks,vs)
 | .lr=>some ([],[])
 | _=>none
def oD (fk:FK) (k:AV) (yL:AV) (ok:Bool):List AV->List AV->ay
 | y::ys,v::vs=>match iA fk k y with
   | none=>.bad
   | some b=>if b=true then .val (if ok then .aG [v,.bool true] else v) else oD fk k yL ok ys vs
 | _,_=>.val (if ok then .aG [yL,.bool false] else yL)
def zeroV (P:Program) (t:TypeId):Option AV:=((P.info? t).bind (·.zero)).map En
def wb (P:Program) (t:TypeId) (m k:AV) (ok:Bool) (U:St):ay :=
 match qn P t,mL U m with
 | some (fk,e),some (ks,vs)=>match zeroV P e,uv fk k with
   | some z,true=>oD fk k z ok ks vs
   | _,_=>.bad
 | _,_=>.bad
theorem zl {P:Program} {t e:TypeId} {fk:FK} (h:qn P t=some (fk,e)):∃ k,P.underlying t=some (.map k e)/\((fk=.i/\∃ q,P.underlying k=some (.int q))\/(fk=.s/\P.underlying k=some .string)):=by
 unfold qn at h
 split at h
 . rename_i k e' hu
   split at h
   . rename_i q hq
     simp only [iW,gJ] at h
     obtain ⟨rfl,rfl⟩:=h
     exact ⟨k,hu,.inl ⟨rfl,q,hq⟩⟩
   . rename_i hq
     simp only [iW,gJ] at h
     obtain ⟨rfl,rfl⟩:=h
     exact ⟨k,hu,.inr ⟨rfl,hq⟩⟩
   . cases h
 . cases h
theorem sS {P:Program} {k:TypeId} {fk:FK} {d:TypeDesc} (hd:P.underlying k=some d) (hk:(fk=.i/\∃ q,d=.int q)\/(fk=.s/\d=.string)) {x y:AV} {u v:Value} {b:Bool} (hx:aE g x u) (hy:aE g y v) (h:iA fk x y=some b) :
 Instr.sameNow d u v=some b:=by
 rcases hk with ⟨rfl,q,rfl⟩ | ⟨rfl,rfl⟩ <;> cases x <;> cases y <;> simp only [iA,reduceCtorEq] at h
 . split at h
   . rename_i e; subst e
     simp only [aE] at hx hy; subst hx hy
     simp at h; subst h
     simp [Instr.sameNow]
   . cases h
 . simp only [aE] at hx hy; subst hx hy
   simp only [iW] at h; subst h
   simp only [Instr.sameNow,beq_toListBytes,ByteArray.toList_eq,List.toList_toArray]
theorem findNow_spec {d:TypeDesc} {u:Value}:∀ (es:List MapEntry) (i:Nat),(∀ e ∈ es,∃ b,Instr.sameNow d u e.key=some b) ->
 ((∀ e ∈ es,Instr.sameNow d u e.key=some false)/\Instr.findNow d u es i=some none) \/
 (∃ j e,es[j]?=some e/\Instr.sameNow d u e.key=some true/\Instr.findNow d u es i=some (some (i+j,e.val)))
 | [],i,_=>.inl ⟨by simp,by simp [Instr.findNow]⟩
 | e::es,i,h=>by
   obtain ⟨b,hb⟩:=h e (by simp)
   cases b
   . rcases findNow_spec es (i+1) (fun x hx=>h x (by simp [hx])) with ⟨h1,h2⟩ | ⟨j,e',h1,h2,h3⟩
     . refine .inl ⟨fun x hx=>?_,by simp [Instr.findNow,hb,h2]⟩
       rcases cF.1 hx with rfl | hx
       . exact hb
       . exact h1 x hx
     . exact .inr ⟨j+1,e',by simpa using h1,h2,by simp [Instr.findNow,hb,h3]; omega⟩
   . exact .inr ⟨0,e,by simp,hb,by simp [Instr.findNow,hb]⟩
theorem u3 {fk:FK} {k y:AV} (h:iA fk k y=some true):k=y:=by
 cases fk <;> cases k <;> cases y <;> simp only [iA,reduceCtorEq] at h
 . split at h
   . rename_i e; subst e; simp at h; rw [h]
   . cases h
 . simp at h; rw [h]
theorem LG (k:AV):jy k k=false:=by
 cases k <;> simp [jy]
theorem Jl {a b c:AV} (h:jy a b=true) (h':jy b c=true):jy a c=true:=by
 cases a <;> cases b <;> simp only [jy,bC] at h <;> cases c <;> simp only [jy,bC,bX,da] at h h' ⊢
 . exact ⟨h.1.trans h'.1,by omega⟩
 . exact List.lt_trans h h'
theorem S0 {fk:FK} {k y:AV} (h:iA fk k y=some false):jy k y=true\/jy y k=true:=by
 cases fk <;> cases k <;> cases y <;> simp only [iA,reduceCtorEq] at h
 . split at h
   . rename_i e; subst e; simp at h; simp [jy]; omega
   . cases h
 . simp at h
   simp only [jy,da]
   rcases Classical.em ((_:List UInt8) < _) with hl | hl
   . exact .inl hl
   . refine .inr ?_
     rcases Classical.em ((_:List UInt8) < _) with qi | qi
     . exact qi
     . exact absurd (List.le_antisymm (List.not_lt.1 qi) (List.not_lt.1 hl)) h
theorem CI {fk:FK} {k y z:AV} (h:iA fk k y=some true) (hz:jy y z=true\/jy z y=true):∃ b,iA fk k z=some b:=by
 have:=u3 h
 subst this
 cases fk <;> cases k <;> cases z <;> simp [iA,jy] at h hz ⊢
 rcases hz with ⟨e,_⟩ | ⟨e,_⟩
 . exact e
 . exact e.symm
theorem wM {fk:FK} {k:AV}:∀ {ks:List AV} {s:Nat} {r:Option Nat},lX fk k ks s=some r ->
 (r=none/\∀ y ∈ ks,iA fk k y=some false)\/(∃ i,r=some (s+i)/\∃ y,ks[i]?=some y/\iA fk k y=some true)
 | [],s,r,h=>by simp only [lX,iW] at h; exact .inl ⟨h.symm,by simp⟩
 | y::ys,s,r,h=>by
   simp only [lX] at h
   split at h
   . cases h
   . rename_i b hb
     cases b
     . simp only [bC,if_false] at h
       rcases wM h with ⟨h1,h2⟩ | ⟨i,h1,z,h2,h3⟩
       . refine .inl ⟨h1,fun z hz=>?_⟩
         rcases cF.1 hz with rfl | hz
         . exact hb
         . exact h2 z hz
       . exact .inr ⟨i+1,by rw [h1]; congr 1; omega,z,by simpa using h2,h3⟩
     . simp only [if_true,iW] at h
       exact .inr ⟨0,by rw [<- h]; rfl,y,by simp,hb⟩
theorem Mw {ks:List AV} (h:o6 ks) {i j:Nat} {y:AV} (hi:ks[i]?=some y) (hj:ks[j]?=some y):i=j:=by
 have key:∀ i j,i < j->ks[i]?=some y->ks[j]?=some y->False:=fun i j qg hi hj=>by
  obtain ⟨h1,h2⟩:=de.1 hi
  obtain ⟨h3,h4⟩:=de.1 hj
  have:=List.pairwise_iff_getElem.1 h i j h1 h3 qg
  rw [h2,h4,LG] at this; cases this
 rcases Nat.lt_trichotomy i j with h | h | h
 . exact (key i j h hi hj).elim
 . exact h
 . exact (key j i h hj hi).elim
theorem Br {P:Program} {kt:TypeId} {fk:FK} {d:TypeDesc} (hd:P.underlying kt=some d) (hk:(fk=.i/\∃ q,d=.int q)\/(fk=.s/\d=.string)) {x:AV} {u:Value} (hx:aE g x u)
 {ks:List AV} {l es:List MapEntry} (hp:l.Perm es) (hs:o6 ks) (hr:aH g ks (l.map (·.key))) {r:Option Nat} (h:lX fk x ks 0=some r) :
 (r=none/\(∀ y ∈ ks,iA fk x y=some false)/\∀ i,Instr.findNow d u es i=some none) \/
 (∃ i j e,r=some i/\ks[i]?=some x/\l[i]?=some e/\es[j]?=some e/\aE g x e.key/\∀ s,Instr.findNow d u es s=some (some (s+j,e.val))):=by
 have mem:∀ e ∈ es,∃ i y,ks[i]?=some y/\l[i]?=some e/\aE g y e.key:=fun e he=>by
  obtain ⟨i,hi⟩:=List.getElem?_of_mem (hp.mem_iff.2 he)
  have aM:i < ks.length:=by
   have h1:=(de.1 hi).1
   have:=hr.length
   simp at this; omega
  obtain ⟨v,hv,NX⟩:=hr.get (i:=i) (x:=ks[i]) (mQ aM)
  rw [mr,hi] at hv
  simp at hv
  subst hv
  exact ⟨i,ks[i],mQ aM,hi,NX⟩
 rcases wM h with ⟨rfl,h1⟩ | ⟨i,rfl,y,h1,h2⟩
 . refine .inl ⟨rfl,h1,fun s=>?_⟩
   have hf:∀ e ∈ es,Instr.sameNow d u e.key=some false:=fun e he=>by
    obtain ⟨i,y,hy,_,N1⟩:=mem e he
    exact sS (P:=P) hd hk hx N1 (h1 y (fl hy))
   rcases findNow_spec es s (fun e he=>⟨_,hf e he⟩) with ⟨_,h2⟩ | ⟨j,e,q1,q2,_⟩
   . exact h2
   . rw [hf e (fl q1)] at q2; cases q2
 . have hxy:=u3 h2
   subst hxy
   have all:∀ z ∈ ks,∃ b,iA fk x z=some b:=fun z hz=>by
    obtain ⟨j,hj⟩:=List.getElem?_of_mem hz
    rcases Nat.lt_trichotomy i j with qg | qg | qg
    . obtain ⟨a1,a2⟩:=de.1 h1
      obtain ⟨a3,a4⟩:=de.1 hj
      have:=List.pairwise_iff_getElem.1 hs i j a1 a3 qg
      rw [a2,a4] at this
      exact CI h2 (.inl this)
    . subst qg; rw [h1] at hj; cases hj; exact ⟨_,h2⟩
    . obtain ⟨a1,a2⟩:=de.1 h1
      obtain ⟨a3,a4⟩:=de.1 hj
      have:=List.pairwise_iff_getElem.1 hs j i a3 a1 qg
      rw [a2,a4] at this
      exact CI h2 (.inr this)
   have same:∀ e ∈ es,∃ b,Instr.sameNow d u e.key=some b:=fun e he=>by
    obtain ⟨i,y,hy,_,N1⟩:=mem e he
    obtain ⟨b,hb⟩:=all y (fl hy)
    exact ⟨b,sS (P:=P) hd hk hx N1 hb⟩
   have Hf:∃ e0,l[i]?=some e0/\aE g x e0.key:=by
    obtain ⟨v,hv,NX⟩:=hr.get h1
    rw [mr,o1] at hv
    obtain ⟨e0,h3,rfl⟩:=hv
    exact ⟨e0,h3,NX⟩
   obtain ⟨e0,qf,ZO⟩:=Hf
   have h0s:Instr.sameNow d u e0.key=some true:=sS (P:=P) hd hk hx ZO h2
   have h0m:e0 ∈ es:=hp.mem_iff.1 (fl qf)
   have pick:∀ s,∃ j,es[j]?=some e0/\Instr.findNow d u es s=some (some (s+j,e0.val)):=fun s=>by
    rcases findNow_spec es s same with ⟨q1,_⟩ | ⟨j,e,q1,q2,q3⟩
    . rw [q1 e0 h0m] at h0s; cases h0s
    . obtain ⟨i',y,hy,ED,N1⟩:=mem e (fl q1)
      obtain ⟨b,hb⟩:=all y (fl hy)
      have Ki:=sS (P:=P) hd hk hx N1 hb
      rw [q2] at Ki
      simp only [iW] at Ki
      subst Ki
      have hxy:=u3 hb
      subst hxy
      have hii:=Mw hs h1 hy
      subst hii
      rw [qf] at ED; cases ED
      exact ⟨j,q1,q3⟩
   obtain ⟨j,hj,hjf⟩:=pick 0
   refine .inr ⟨i,j,e0,by rw [dI],h1,qf,hj,ZO,fun s=>?_⟩
   have shift:∀ (es:List MapEntry) (a b:Nat) j v,Instr.findNow d u es a=some (some (a+j,v))->Instr.findNow d u es b=some (some (b+j,v)):=fun es=>by
    induction es with
    | nil=>intro a b j v h; simp [Instr.findNow] at h
    | cons e es ih =>
      intro a b j v h
      simp only [Instr.findNow] at h ⊢
      cases oQ:Instr.sameNow d u e.key with
      | none=>rw [oQ] at h; cases h
      | some t =>
        rw [oQ] at h
        cases t
        . dsimp only at h ⊢
          have hle:∀ (es:List MapEntry) (a:Nat) r v,Instr.findNow d u es a=some (some (r,v))->a <= r:=fun es=>by
           induction es with
           | nil=>intro a r v h; simp [Instr.findNow] at h
           | cons e es ih =>
             intro a r v h
             simp only [Instr.findNow] at h
             cases oQ:Instr.sameNow d u e.key with
             | none=>rw [oQ] at h; cases h
             | some t =>
               rw [oQ] at h
               cases t
               . have:=ih _ _ _ h; omega
               . simp at h; omega
          have h1:=hle _ _ _ _ h
          have:=ih (a+1) (b+1) (j - 1) v (by rw [h]; congr 3; omega)
          rw [this]; congr 3; omega
        . simp at h ⊢; obtain ⟨h1,h2⟩:=h; exact ⟨by omega,h2⟩
   exact shift es 0 s j _ hjf
theorem S7 {α:Type} {l m:List α} (h:l.Perm m) {i j:Nat} {e:α} (hi:l[i]?=some e) (hj:m[j]?=some e) (e':α):(l.set i e').Perm (m.set j e'):=by
 obtain ⟨h1,h2⟩:=de.1 hi
 obtain ⟨h3,h4⟩:=de.1 hj
 have el:l=l.take i++e::l.drop (i+1):=by
  conv=>lhs; rw [<- List.take_append_drop i l,fU h1,h2]
 have em:m=m.take j++e::m.drop (j+1):=by
  conv=>lhs; rw [<- List.take_append_drop j m,fU h3,h4]
 rw [List.set_eq_take_append_cons_drop,if_pos h1,List.set_eq_take_append_cons_drop,if_pos h3]
 have hp:(l.take i++e::l.drop (i+1)).Perm (m.take j++e::m.drop (j+1)):=by rw [<- el,<- em]; exact h
 have h5:=(List.perm_middle.symm.trans hp).trans List.perm_middle
 have h6:=List.Perm.cons_inv h5
 exact (List.perm_middle.trans (h6.cons e')).trans List.perm_middle.symm
theorem run_checkKey {P:Program} {k:TypeId} {d:TypeDesc} {em:Bool} (hd:P.underlying k=some d) (hk:(∃ q,d=.int q)\/d=.string) (n:Nat) (v:Value):(Instr.checkKey em (n+1) k v).run P w=.ok () w:=by
 rcases hk with ⟨q,rfl⟩ | rfl <;> simp [Instr.checkKey,run_underlying hd]
theorem aH.set:∀ {l:List AV} {vs:List Value} {x:AV} {u:Value} (i:Nat),aH g l vs->aE g x u->aH g (l.set i x) (vs.set i u)
 | [],_,_,_,_,h,_=>by simp only [aH] at h; subst h; simp [aH]
 | y::ys,_,x,u,0,h,hx=>by
   simp only [aH] at h
   obtain ⟨v,vs,rfl,h1,h2⟩:=h
   simp only [List.set_cons_zero,aH]
   exact ⟨u,vs,rfl,hx,h2⟩
 | y::ys,_,x,u,i+1,h,hx=>by
   simp only [aH] at h
   obtain ⟨v,vs,rfl,h1,h2⟩:=h
   simp only [List.set_cons_succ,aH]
   exact ⟨v,_,rfl,h1,aH.set i h2 hx⟩
theorem Hy {k v:AV} {e:MapEntry} (hk:aE g k e.key) (hv:aE g v e.val):∀ (ks vs:List AV) (l:List MapEntry),aH g ks (l.map (·.key))->aH g vs (l.map (·.val)) ->
 ∃ l':List MapEntry,l'.Perm (e::l)/\aH g (gN k v ks vs).1 (l'.map (·.key))/\aH g (gN k v ks vs).2 (l'.map (·.val))
 | [],vs,l,h1,h2=>by
   simp only [aH,List.map_eq_nil_iff] at h1
   subst h1
   exact ⟨[e],List.Perm.refl _,by simp only [gN,dV,jU,aH]; exact ⟨_,_,rfl,hk,rfl⟩,by simp only [gN,dV,jU,aH]; exact ⟨_,_,rfl,hv,rfl⟩⟩
 | y::ks,vs,[],h1,h2=>by simp [aH] at h1
 | y::ks,[],f::l,h1,h2=>by simp [aH] at h2
 | y::ks,x::vs,f::l,h1,h2=>by
   simp only [gN]
   by_cases aM:jy k y=true
   . rw [if_pos aM]
     exact ⟨e::f::l,List.Perm.refl _,by rw [dV]; simp only [aH] at h1 ⊢; exact ⟨_,_,rfl,hk,h1⟩,by rw [dV]; simp only [aH] at h2 ⊢; exact ⟨_,_,rfl,hv,h2⟩⟩
   . rw [if_neg aM]
     simp only [aH,dV,List.cons.injEq] at h1 h2
     obtain ⟨_,_,⟨rfl,rfl⟩,hy,h1⟩:=h1
     obtain ⟨_,_,⟨rfl,rfl⟩,hx,h2⟩:=h2
     obtain ⟨l',h3,h4,h5⟩:=Hy hk hv ks vs l h1 h2
     exact ⟨f::l',((h3.cons f).trans (List.Perm.swap e f l)),by simp only [dV,aH]; exact ⟨_,_,rfl,hy,h4⟩,by simp only [dV,aH]; exact ⟨_,_,rfl,hx,h5⟩⟩
theorem wV {k v:AV}:∀ (ks vs:List AV) (z:AV),z ∈ (gN k v ks vs).1->z=k\/z ∈ ks
 | [],vs,z,h=>by simp [gN] at h; exact .inl h
 | y::ks,vs,z,h=>by
   simp only [gN] at h
   split at h
   . simpa using h
   . split at h
     . simp at h; exact .inl h
     . rename_i x xs
       simp only [cF] at h ⊢
       rcases h with h | h
       . exact .inr (.inl h)
       . rcases wV ks xs z h with h | h
         . exact .inl h
         . exact .inr (.inr h)
theorem A1 {k v:AV}:∀ (ks vs:List AV),o6 ks->(∀ y ∈ ks,jy k y=true\/jy y k=true)->o6 (gN k v ks vs).1
 | [],vs,h1,h2=>by simp [gN,o6]
 | y::ks,vs,h1,h2=>by
   unfold o6 at h1 ⊢
   rw [List.pairwise_cons] at h1
   simp only [gN]
   split
   . rename_i aM
     rw [List.pairwise_cons,List.pairwise_cons]
     refine ⟨fun z hz=>?_,h1⟩
     rcases cF.1 hz with rfl | hz
     . exact aM
     . exact Jl aM (h1.1 z hz)
   . rename_i aM
     split
     . simp
     . rename_i x xs
       rw [List.pairwise_cons]
       refine ⟨fun z hz=>?_,A1 ks xs h1.2 fun z hz=>h2 z (by simp [hz])⟩
       rcases wV ks xs z hz with rfl | hz
       . rcases h2 y (by simp) with h | h
         . exact absurd h aM
         . exact h
       . exact h1.1 z hz
theorem km.push {es:Array MapEntry} {clock:Nat} (h:km es clock) (k v:Value):km (es.push ⟨k,v,clock⟩) (clock+1):=by
 obtain ⟨h1,h2⟩:=h
 refine ⟨?_,fun e he=>?_⟩
 . simp only [Array.toList_push,List.map_append,dV,jU]
   rw [List.nodup_append]
   refine ⟨h1,by simp,fun a ha b hb=>?_⟩
   simp at hb
   subst hb
   obtain ⟨e,he,rfl⟩:=List.mem_map.1 ha
   exact Nat.ne_of_lt (h2 e he)
 . simp only [Array.toList_push,fN,kH] at he
   rcases he with he | rfl
   . have:=h2 e he; omega
   . simp
theorem AF {es:Array MapEntry} {j:Nat} {e:MapEntry} (hj:es.toList[j]?=some e) (f:MapEntry->MapEntry):(es.modify j f).toList=es.toList.set j (f e):=by
 apply List.ext_getElem?
 intro i
 simp only [Array.toList_modify,List.getElem?_modify,List.getElem?_set]
 by_cases qg:j=i
 . subst qg
   have aM:=(de.1 hj).1
   simp only [if_true,hj,if_pos aM]; rfl
 . simp only [if_neg qg]
   cases es.toList[i]? <;> rfl
theorem km.modify {es vF:Array MapEntry} {clock:Nat} (h:km es clock) {j:Nat} {e e':MapEntry} (hj:es.toList[j]?=some e) (hb:e'.born=e.born) (he:vF.toList=es.toList.set j e'):km vF clock:=by
 have hm:vF.toList.map (·.born)=es.toList.map (·.born):=by
  rw [he,List.map_set,hb]
  apply List.ext_getElem?
  intro i
  rw [List.getElem?_set]
  split
  . rename_i qg
    subst qg
    rw [mr,hj]
    have aM:=(de.1 hj).1
    simp at aM ⊢; exact aM
  . rfl
 refine ⟨by rw [hm]; exact h.1,fun x hx=>?_⟩
 have:x.born ∈ vF.toList.map (·.born):=List.mem_map_of_mem hx
 rw [hm] at this
 obtain ⟨y,hy,hy2⟩:=List.mem_map.1 this
 rw [<- hy2]; exact h.2 y hy
theorem uB (h:bp g U w) {t:TypeId} {m k x:AV} {vm vk vx:Value} (hm:aE g m vm) (hk:aE g k vk) (hx:aE g x vx) :
 ay.Fits C g U (qo C.P t m k x U) ((do Instr.mapUpdate t vm vk vx; pure Next.skip:Sem Next).run C.P w):=by
 unfold qo
 split
 . rename_i fk e id ht
   split
   . rename_i ks vs Hg
     obtain ⟨kt,hu,Z3⟩:=zl ht
     obtain ⟨d,hd,Hb⟩:∃ d,C.P.underlying kt=some d/\((fk=.i/\∃ q,d=.int q)\/(fk=.s/\d=.string)):=by
      rcases Z3 with ⟨rfl,q,hq⟩ | ⟨rfl,hq⟩
      . exact ⟨_,hq,.inl ⟨rfl,q,rfl⟩⟩
      . exact ⟨_,hq,.inr ⟨rfl,rfl⟩⟩
     have SO:(∃ q,d=.int q)\/d=.string:=Hb.imp (·.2) (·.2)
     simp only [aE] at hm
     obtain ⟨r,hr,rfl⟩:=hm
     obtain ⟨r',es,clock,q1,q2,q3,qb,⟨l,q4,q5,q6,q7⟩,q8⟩:=h.mp id _ Hg
     rw [hr] at q1; cases q1
     have si:(getObj r).run C.P w=.ok (.map es clock) w:=by simp [getObj,Sem.run,q3]
     have Nz:=run_checkKey (P:=C.P) (w:=w) (em:=false) hd SO 9999 vk
     have wR:∀ o,(setObj r o).run C.P w=.ok () { w with heap:=w.heap.setIfInBounds r o }:=fun o=>by simp [setObj,Sem.run,q3]
     split
     . rename_i hf Kb
       rcases Br (P:=C.P) hd Hb hk q4 q5 q6 hf with ⟨_,ha,hn⟩ | ⟨i,_,_,he,_⟩
       . simp only [Instr.mapUpdate,cm,run_underlying hu,cI,si,Nz,Instr.findKey,run_underlying hd,hn,cP,wR]
         obtain ⟨l',p1,p2,p3⟩:=Hy (e:=⟨vk,vx,clock⟩) hk hx ks vs l q6 q7
         refine ⟨undef,_,g,.inr ⟨rfl,rfl⟩,Gh.Le.refl g,h.O8 Hg (kv':=gN k x ks vs) hr q3 ⟨l',?_,?_,p2,p3⟩ (qb.push vk vx),by simp only [aE]; exact ⟨[],rfl,by simp [aH]⟩⟩
         . rw [Array.toList_push]
           exact (p1.trans (q4.cons _)).trans (List.perm_append_singleton _ _).symm
         . exact A1 ks vs q5 fun y hy=>S0 (ha y hy)
       . cases he
     . rename_i i hf Kb
       rcases Br (P:=C.P) hd Hb hk q4 q5 q6 hf with ⟨he,_⟩ | ⟨i',j,e,he,Z2,Hf,NB,UI,hn⟩
       . cases he
       . cases he
         have y7:=hn 0
         rw [dI] at y7
         have aM:j < es.size:=by
          have:=(de.1 NB).1
          simpa using this
         have aeh:es[j]?=some e:=by rw [<- lK]; exact NB
         have acH:Instr.sameBits 10000 e.key vk=true:=by
          rcases Hb with ⟨rfl,_⟩ | ⟨rfl,_⟩ <;> cases k <;> simp only [uv,bC] at Kb
          . simp only [aE] at hk UI; rw [hk,UI]; simp [Instr.sameBits]
          . simp only [aE] at hk UI; rw [hk,UI]; simp [Instr.sameBits,beq_toListBytes]
         have Ki:(Instr.keyThatStays e.key vk).run C.P w=.ok vk w:=by simp [Instr.keyThatStays,acH]
         have aeq:((es[j]?).map (·.key)).getD vk=e.key:=by rw [aeh]; rfl
         simp only [Instr.mapUpdate,cm,run_underlying hu,cI,si,Nz,Instr.findKey,run_underlying hd,y7,cP,wR,aeq,Ki]
         have Z9:=AF NB (fun e=>{ e with key:=vk,val:=vx })
         refine ⟨undef,_,g,.inr ⟨rfl,rfl⟩,Gh.Le.refl g,h.O8 Hg (kv':=(ks,vs.set i x)) hr q3 ⟨l.set i { e with key:=vk,val:=vx },?_,q5,?_,?_⟩ (qb.modify (e':={ e with key:=vk,val:=vx }) NB rfl Z9),by simp only [aE]; exact ⟨[],rfl,by simp [aH]⟩⟩
         . rw [Z9]; exact S7 q4 Hf NB _
         . rw [List.map_set]
           have:=q6.set i hk
           have e1:ks.set i k=ks:=by
            apply List.ext_getElem?
            intro a
            rw [List.getElem?_set]
            split
            . rename_i ha; subst ha
              split
              . exact Z2.symm
              . rename_i hn; exact absurd (de.1 Z2).1 hn
            . rfl
           rw [e1] at this; exact this
         . rw [List.map_set]; exact q7.set i hx
     . trivial
   . trivial
 . trivial
theorem CM {fk:FK} {k z:AV} {ok:Bool}:∀ (ks vs:List AV) (s:Nat),ks.length=vs.length->oD fk k z ok ks vs=(match lX fk k ks s with
 | none=>.bad
 | some none=>.val (if ok then .aG [z,.bool false] else z)
 | some (some i)=>.val (if ok then .aG [vs.getD (i - s) z,.bool true] else vs.getD (i - s) z))
 | [],[],s,_=>by simp [oD,lX]
 | [],_::_,s,h=>by simp at h
 | _::_,[],s,h=>by simp at h
 | y::ks,v::vs,s,h=>by
   simp only [oD,lX]
   cases hb:iA fk k y with
   | none=>rfl
   | some b =>
     cases b
     . simp only [bC,if_false]
       rw [CM ks vs (s+1) (by simpa using h)]
       cases hf:lX fk k ks (s+1) with
       | none=>rfl
       | some r =>
         cases r with
         | none=>rfl
         | some i =>
           rcases wM hf with ⟨h1,_⟩ | ⟨i',h1,_⟩
           . cases h1
           . cases h1
             have e1:s+1+i' - (s+1)=i':=by omega
             have e2:s+1+i' - s=i'+1:=by omega
             simp only [e1,e2,List.getD_cons_succ]
     . simp only [if_true,Nat.sub_self,List.getD_cons_zero]
theorem HJ (h:bp g U w) {t:TypeId} {m k:AV} {vm vk:Value} {ok:Bool} (hm:aE g m vm) (hk:aE g k vk) :
 ay.Fits C g U (wb C.P t m k ok U) ((do let r <- Instr.lookup t vm vk ok; pure (Next.value r):Sem Next).run C.P w):=by
 unfold wb
 split
 . rename_i fk e ks vs ht he
   split
   . rename_i z hz Kb
     obtain ⟨kt,hu,Z3⟩:=zl ht
     obtain ⟨d,hd,Hb⟩:∃ d,C.P.underlying kt=some d/\((fk=.i/\∃ q,d=.int q)\/(fk=.s/\d=.string)):=by
      rcases Z3 with ⟨rfl,q,hq⟩ | ⟨rfl,hq⟩
      . exact ⟨_,hq,.inl ⟨rfl,q,rfl⟩⟩
      . exact ⟨_,hq,.inr ⟨rfl,rfl⟩⟩
     have SO:(∃ q,d=.int q)\/d=.string:=Hb.imp (·.2) (·.2)
     obtain ⟨i,vz,hi,tH,N3⟩:∃ i vz,C.P.info? e=some i/\i.zero=some vz/\En vz=z:=by
      unfold zeroV at hz
      cases hi:C.P.info? e with
      | none=>simp [hi] at hz
      | some i =>
        cases og:i.zero with
        | none=>simp [hi,og] at hz
        | some vz=>simp [hi,og] at hz; exact ⟨i,vz,rfl,og,hz⟩
     have U4:aE g z vz:=by rw [<- N3]; exact DE vz
     obtain ⟨es,yY,l,hp,aeC,h1,h2⟩:∃ es:Array MapEntry,((vm=.map none/\es=#[])\/∃ r clock,vm=.map (some r)/\w.heap[r]?=some (Obj.map es clock))/\wD g ks vs es:=by
      cases m <;> simp only [mL,reduceCtorEq,iW,gJ] at he
      . obtain ⟨rfl,rfl⟩:=he
        simp only [aE] at hm; subst hm
        exact ⟨#[],.inl ⟨rfl,rfl⟩,[],List.Perm.refl _,by simp [o6],by simp [aH],by simp [aH]⟩
      . simp only [aE] at hm
        obtain ⟨r,hr,rfl⟩:=hm
        obtain ⟨r',es,clock,q1,q2,q3,_,q4,_⟩:=h.mp _ _ he
        rw [hr] at q1; cases q1
        exact ⟨es,.inr ⟨r,clock,rfl,q3⟩,q4⟩
      . obtain ⟨rfl,rfl⟩:=he
        simp only [aE] at hm
        obtain ⟨r,es,clock,l,rfl,hr,q0,q1,q2,q3⟩:=hm
        exact ⟨es,.inr ⟨r,clock,rfl,(h.cj r es clock hr).1⟩,l,q0,q1,q2,q3⟩
     have hlen:ks.length=vs.length:=by
      have a:=h1.length
      have b:=h2.length
      simp at a b; omega
     rw [CM ks vs 0 hlen]
     cases hf:lX fk k ks 0 with
     | none=>trivial
     | some r =>
       have Nz:=run_checkKey (P:=C.P) (w:=w) (em:=es.isEmpty) hd SO 9999 vk
       have key:=Br (P:=C.P) hd Hb hk hp aeC h1 hf
       have fin:∀ q:Option (Nat × Value),Instr.findNow d vk es.toList 0=some q->(Instr.lookup t vm vk ok).run C.P w=(match q with
        | some (_,v)=>.ok (if ok then .tuple #[v,.bool true] else v) w
        | none=>.ok (if ok then .tuple #[vz,.bool false] else vz) w):=fun q hq=>by
        rcases yY with ⟨rfl,rfl⟩ | ⟨r,clock,rfl,hh⟩
        . simp only [Instr.lookup,cm,run_underlying hu,cI,cP,Nz,Instr.findKey,run_underlying hd,hq]
          cases q with
          | none=>simp only [cP,cI,cm,gK hi tH]
          | some p=>rfl
        . have si:(getObj r).run C.P w=.ok (Obj.map es clock) w:=by simp [getObj,Sem.run,hh]
          simp only [Instr.lookup,cm,run_underlying hu,cI,cP,si,Nz,Instr.findKey,run_underlying hd,hq]
          cases q with
          | none=>simp only [cP,cI,cm,gK hi tH]
          | some p=>rfl
       rcases key with ⟨rfl,_,hn⟩ | ⟨i,j,e,rfl,_,Hf,_,_,hn⟩
       . simp only [cm,fin _ (hn 0),cI,cP]
         refine a8 h ?_
         cases ok
         . exact U4
         . simp only [if_true,aE]
           exact ⟨[vz,.bool false],rfl,by simp only [aH]; exact ⟨_,_,rfl,U4,_,_,rfl,by simp only [aE],rfl⟩⟩
       . simp only [cm,fin _ (hn 0),cI,cP,Nat.sub_zero]
         have hv:aE g (vs.getD i z) e.val:=by
          have aM:i < vs.length:=by
           have a:=(de.1 Hf).1
           have b:=h2.length
           simp at b; omega
          obtain ⟨v,hv,NX⟩:=h2.get (i:=i) (x:=vs[i]) (mQ aM)
          rw [mr,Hf] at hv
          simp at hv
          subst hv
          have:vs.getD i z=vs[i]:=by simp [mv,aM]
          rw [this]; exact NX
         refine a8 h ?_
         cases ok
         . exact hv
         . simp only [if_true,aE]
           exact ⟨[e.val,.bool true],rfl,by simp only [aH]; exact ⟨_,_,rfl,hv,_,_,rfl,by simp only [aE],rfl⟩⟩
   . trivial
 . trivial
theorem LW (h:bp g U w):ay.Fits C g U .xl (.ok (.value (.map (some w.heap.size))) (w.alloc (.map #[] 0))):=by
 obtain ⟨b,g',h1,h2,h3,h4⟩:=h.tL (.map #[] 0) 0 0 (.mp [] []) fun g' hle hi hm=>⟨#[],0,heap_alloc_new w _,⟨by simp,by simp⟩,⟨[],List.Perm.refl _,by simp [o6],by simp [aH],by simp [aH]⟩,hm⟩
 exact ⟨_,_,g',b,rfl,h1,h2,h4,by simp only [NV.at,aE]; exact ⟨_,Gh.pj.2 ⟨_,h3,rfl⟩,rfl⟩⟩
end
end Go.Rip
namespace Go.Rip
open Go.RowKit
def aO (c a b:AV):ay :=
 match c with
 | .bool t=>.val (if t=true then a else b)
 | _=>.bad
def Aj (P:Program) (s f:Nat):Option (Nat × Bool × Nat) :=
 match P.underlying s with
 | some (.struct fields)=>match fields[f]? with
   | some x=>match nO P x.type with
     | some (b,n)=>some (x.offset,b,n)
     | none=>none
   | none=>none
 | _=>none
def yP (P:Program) (s:TypeId) (x:AV) (f:Nat):ay :=
 match Aj P s f,x with
 | some (o,true,n),.agg l=>.cond (o+n <= l.length) (.val (.agg ((l.drop o).take n)))
 | some (o,false,_),.agg l=>iH (l.drop o)
 | _,_=>.bad
def jW (P:Program) (f:AV) (args:List AV):ay :=
 match f with
 | .func (.func g) first cap=>if gj P g=true then .enter g (first++args++cap) else .bad
 | .qI o=>.yield o args
 | _=>.bad
def H2 (P:Program) (t:TypeId) (m:AV):ay :=
 match qn P t,m with
 | some _,.gb ks vs=>.new .it none (.iter (ks.zip vs) none)
 | _,_=>.bad
def sV:List (AV × AV)->List ((AV × AV) × List (AV × AV))
 | []=>[]
 | x::xs=>(x,xs)::(sV xs).map fun p=>(p.1,x::p.2)
def ry (i:AV) (U:St):ay :=
 match i with
 | .it o=>match U.iter o with
   | some ([],_)=>.val (.aG [.bool false])
   | some (x::xs,_)=>.lh o ((sV (x::xs)).map fun p=>(.aG [.bool true,p.1.1,p.1.2],.iter p.2 (some p.1)))
   | none=>.bad
 | _=>.bad
def mf (i:AV) (U:St):ay :=
 match i with
 | .it o=>match U.iter o with
   | some (_,some kv)=>.val (.aG [kv.1,kv.2])
   | _=>.bad
 | _=>.bad
def Af (P:Program) (t:TypeId):Option AV :=
 match P.underlying t with
 | some (.interface _)=>none
 | some _=>zeroV P t
 | none=>none
def vj (P:Program) (x:AV) (t:TypeId) (ok:Bool):ay :=
 match Af P t,x with
 | some z,.iface u v=>if u=t then .val (if ok then .aG [v,.bool true] else v) else if ok then .val (.aG [z,.bool false]) else .bad
 | some z,.dv=>if ok then .val (.aG [z,.bool false]) else .bad
 | _,_=>.bad
def sT (P:Program) (t:TypeId) (mu:Bool) (l c:AV):ay :=
 match fj P t,l,c with
 | some (e,sz),.int _ l,.int _ c=>match pC P e with
   | some z=>.cond (0 <= l/\l=c/\c <= 65536) (if mu then .oE l.toNat sz e none (cN l.toNat z) else .nv l.toNat (cN l.toNat z) none ⟨l.toNat,e,sz⟩)
   | none=>.bad
 | _,_,_=>.bad
def yJ (P:Program) (t:TypeId) (x:AV) (U:St):ay :=
 match fj P t,x with
 | some (e,sz),.ms b off n jq _=>match U.box b,pC P e with
   | some l,some z=>.cond (jq=sz/\off+n * sz <= l.length) (.ir (.aG []) b (.box (aK l off (cN n z))))
   | _,_=>.bad
 | _,_=>.bad
def Cp (P:Program) (t u:TypeId):Option (TypeId × Nat × List AV) :=
 match P.underlying u with
 | some (.int _)=>match fj P t with
   | some (e,sz)=>match pC P e with
     | some z=>some (e,sz,z)
     | none=>none
   | none=>none
 | _=>none
def F3 (q:TypeId × Nat × List AV) (mu:Bool) (s y:AV):ay :=
 match s,y with
 | .aA,.int _ n=>.cond (0 < n/\n <= 65536) (if mu then .oE n.toNat q.2.1 q.1 none (cN n.toNat q.2.2) else .nv n.toNat (cN n.toNat q.2.2) none ⟨n.toNat,q.1,q.2.1⟩)
 | _,_=>.bad
def GD (st:Option (TypeId × Nat)) (x:AV):ay:=match st,x with
 | some _,.aA=>.val (.int .i64 0)
 | _,_=>.bad
def Ae (P:Program) (t u:TypeId) (mu:Bool) (s y:AV) (U:St):ay :=
 match Cp P t u with
 | some q=>F3 q mu s y
 | none=>Dz P t u mu s y U
def Ag (C:cT) (mu:Bool) (c:Call) (ρ:Env) (U:St):ay :=
 match c.callee,c.argTypes.toList,c.args.toList with
 | .value f,_,args=>jW C.P (ρ.ev C f) (args.map (ρ.ev C))
 | .builtin .len,[t],[x]=>HF C.P t (ρ.ev C x) U
 | .builtin .append,[t,u],[s,y]=>Ae C.P t u mu (ρ.ev C s) (ρ.ev C y) U
 | .builtin .cap,[t],[x]=>GD (fj C.P t) (ρ.ev C x)
 | .builtin .min,_,[x,y]=>u5 (ρ.ev C x) (ρ.ev C y)
 | .builtin .max,_,[x,y]=>Bz (ρ.ev C x) (ρ.ev C y)
 | .builtin .clear,[t],[x]=>yJ C.P t (ρ.ev C x) U
 | _,_,_=>.bad
def jH (C:cT) (mu:Bool) (o:Op) (ρ:Env) (U:St):ay :=
 match o with
 | .move x | .assign x=>.val (ρ.ev C x)
 | .pick c a b=>aO (ρ.ev C c) (ρ.ev C a) (ρ.ev C b)
 | .alloc t=>Gs C.P t
 | .box _ x=>eO (ρ.ev C x)
 | .build t parts=>GA C.P t (mg C ρ parts)
 | .buildSlice t n parts=>ri C.P t n mu (mg C ρ parts)
 | .insert t m k v | .mapUpdate t m k v=>qo C.P t (ρ.ev C m) (ρ.ev C k) (ρ.ev C v) U
 | .load t a=>uz C.P t (ρ.ev C a) U
 | .store t a v=>Io C.P t (ρ.ev C a) (ρ.ev C v) U
 | .nilCheck x=>bR (ρ.ev C x)
 | .binOp op t x y _=>Gx C.P op t (isLit x || isLit y) (ρ.ev C x) (ρ.ev C y)
 | .unOp op _ x=>hY op (ρ.ev C x)
 | .convert s d x=>F1 C.P s d (ρ.ev C x)
 | .makeInterface t x=>xj C.P t (ρ.ev C x)
 | .makeFunc fn first cap=>.val (.func fn (first.toList.map (ρ.ev C)) (cap.toList.map (ρ.ev C)))
 | .makeMap _ none=>.xl
 | .slice t x lo hi none=>Ik C.P t (ρ.ev C x) (lo.map (ρ.ev C)) (hi.map (ρ.ev C))
 | .fieldAddr s x f=>wL C.P s (ρ.ev C x) f
 | .field s x f=>yP C.P s (ρ.ev C x) f
 | .indexAddr t x i=>wU C.P t (ρ.ev C x) (ρ.ev C i)
 | .index t x i=>CF C.P t (ρ.ev C x) (ρ.ev C i)
 | .lookup t m k ok=>wb C.P t (ρ.ev C m) (ρ.ev C k) ok U
 | .extract t i=>aV (ρ.ev C t) i
 | .panic x=>zw (ρ.ev C x)
 | .range t m=>H2 C.P t (ρ.ev C m)
 | .typeAssert x _ t ok=>vj C.P (ρ.ev C x) t ok
 | .makeSlice t l c=>sT C.P t mu (ρ.ev C l) (ρ.ev C c)
 | .next i false=>ry (ρ.ev C i) U
 | .entry i=>mf (ρ.ev C i) U
 | .call c=>Ag C mu c ρ U
 | _=>.bad
section
variable {C:cT} {g:Gh} {U:St} {w:World}
theorem DI (h:bp g U w) {s f:Nat} {x:AV} {v:Value} (hx:aE g x v):ay.Fits C g U (yP C.P s x f) ((do let r <- Instr.field s v f; pure (Next.value r):Sem Next).run C.P w):=by
 unfold yP
 have key:∀ {o b n},Aj C.P s f=some (o,b,n)->∃ fs y i d,C.P.underlying s=some (.struct fs)/\fs[f]?=some y/\y.offset=o/\C.P.info? y.type=some i/\C.P.underlying y.type=some d/\Dx d=b/\i.size=n:=fun {o b n} hf=>by
  unfold Aj at hf
  split at hf
  . rename_i fs hu
    split at hf
    . rename_i y hy
      split at hf
      . rename_i b' n' hv
        simp only [iW,gJ] at hf
        obtain ⟨rfl,rfl,rfl⟩:=hf
        obtain ⟨i,d,h1,h2,h3,h4⟩:=oy hv
        exact ⟨fs,y,i,d,hu,hy,rfl,h1,h2,h3,h4⟩
      . cases hf
    . cases hf
  . cases hf
 split
 . rename_i o n l hf
   obtain ⟨fs,y,i,d,hu,hy,rfl,hi,hd,ha,rfl⟩:=key hf
   intro hle
   simp only [aE] at hx
   obtain ⟨vs,rfl,h1,hr⟩:=hx
   simp only [Instr.field,cm,run_underlying hu,cI,hy,asAgg,cP,part,lx hd,ha,if_true,eZ,eK hi]
   refine a8 h ?_
   simp only [aE]
   refine ⟨(vs.drop y.offset).take i.size,?_,fun u hu=>h1 u (List.mem_of_mem_drop (List.mem_of_mem_take hu)),(hr.drop _).take _⟩
   congr 1
   apply Array.ext'
   simp [List.extract_eq_take_drop]
 . rename_i o n l hf
   obtain ⟨fs,y,i,d,hu,hy,rfl,hi,hd,ha,rfl⟩:=key hf
   simp only [aE] at hx
   obtain ⟨vs,rfl,h1,hr⟩:=hx
   cases hl:l.drop y.offset with
   | nil=>trivial
   | cons z zs =>
     have hz:l[y.offset]?=some z:=by
      have:=congrArg (fun l=>l[0]?) hl
      simpa using this
     obtain ⟨u,oR,hzu⟩:=hr.get hz
     have e:vs.toArray[y.offset]?=some u:=by simpa using oR
     simp only [Instr.field,cm,run_underlying hu,cI,hy,asAgg,cP,part,lx hd,ha,bC,if_false,eZ,e]
     exact a8 h hzu
 . trivial
theorem Ai (hG:ix C g) {ρ:Env} {a:Act} (hr:gM g ρ a.tmps):∀ l:List Operand,aH g (l.map (ρ.ev C)) (l.map a.eval)
 | []=>by simp [aH]
 | x::l=>by simp only [dV,aH]; exact ⟨_,_,rfl,tm hG hr x,Ai hG hr l⟩
theorem SB (h:bp g U w) {f:AV} {vf:Value} {args:List AV} {vs:List Value} (hf:aE g f vf) (ha:aH g args vs) :
 ay.Fits C g U (jW C.P f args) ((do let d <- Deferred.ofValue vf vs.toArray; invoke d.target d.args:Sem Next).run C.P w):=by
 unfold jW
 split
 . rename_i q first cap
   split
   . rename_i he
     simp only [aE] at hf
     obtain ⟨fs,cs,rfl,h1,h2⟩:=hf
     unfold gj at he
     split at he
     . rename_i fn hfn
       simp only [bX,Bool.not_eq_true'] at he
       have hb:fn.body.isNone=false:=by cases hb:fn.body <;> simp_all
       simp only [Deferred.ofValue,invoke,callFunc,cm,cP,cI,run_program,hfn,he.2,hb,bC,if_false,eZ]
       exact ⟨fs++vs++cs,w,by simp,h,(h1.append ha).append h2⟩
     . cases he
   . trivial
 . rename_i o
   simp only [aE] at hf
   obtain ⟨x,hx,rfl⟩:=hf
   simp only [Deferred.ofValue,invoke,cm,cP,cI]
   exact ⟨vs,x,w,w,hx,by simp,rfl,h,ha⟩
 . trivial
theorem BW (h:bp g U w) {x:AV} {v:Value} {xt t:TypeId} {ok:Bool} (hx:aE g x v) :
 ay.Fits C g U (vj C.P x t ok) ((do let r <- Instr.typeAssert v xt t ok; pure (Next.value r):Sem Next).run C.P w):=by
 have key:∀ {z:AV},Af C.P t=some z->∃ d i vz,C.P.underlying t=some d/\(∀ ms,d ≠ .interface ms)/\C.P.info? t=some i/\i.zero=some vz/\aE g z vz:=fun {z} hz=>by
  unfold Af at hz
  split at hz
  . cases hz
  . rename_i d hn hd
    unfold zeroV at hz
    cases hi:C.P.info? t with
    | none=>simp [hi] at hz
    | some i =>
      cases og:i.zero with
      | none=>simp [hi,og] at hz
      | some vz=>simp [hi,og] at hz; exact ⟨d,i,vz,hd,fun ms e=>hn ms e,rfl,og,by rw [<- hz]; exact DE vz⟩
  . cases hz
 unfold vj
 split
 . rename_i z u y hz
   obtain ⟨d,i,vz,hd,hn,hi,og,N3⟩:=key hz
   simp only [aE] at hx
   obtain ⟨q,rfl,hq⟩:=hx
   have gZ:(Instr.typeAssert (.iface u q) xt t ok).run C.P w=(if u=t then .ok (if ok then .tuple #[q,.bool true] else q) w else if ok then .ok (.tuple #[vz,.bool false]) w else (Instr.typeAssert (.iface u q) xt t ok).run C.P w):=by
    by_cases hu:u=t
    . rw [if_pos hu]
      cases d <;> first
       | exact absurd rfl (hn _)
       | (cases ok <;> simp [Instr.typeAssert,run_underlying hd,hu])
    . rw [if_neg hu]
      cases ok
      . rfl
      . cases d <;> first
         | exact absurd rfl (hn _)
         | simp [Instr.typeAssert,run_underlying hd,hu,gK hi og]
   split
   . rename_i hu
     rw [cm,gZ,if_pos hu]
     refine a8 h ?_
     cases ok
     . exact hq
     . simp only [if_true,aE,aH]; exact ⟨_,rfl,_,_,rfl,hq,_,_,rfl,rfl,rfl⟩
   . rename_i hu
     split
     . rename_i cS
       rw [cm,gZ,if_neg hu,if_pos cS]
       exact a8 h (by simp only [aE,aH]; exact ⟨_,rfl,_,_,rfl,N3,_,_,rfl,rfl,rfl⟩)
     . trivial
 . rename_i z hz
   obtain ⟨d,i,vz,hd,hn,hi,og,N3⟩:=key hz
   simp only [aE] at hx
   subst hx
   split
   . rename_i cS
     subst cS
     have gZ:(Instr.typeAssert .nilIface xt t true).run C.P w=.ok (.tuple #[vz,.bool false]) w:=by
      cases d <;> first
       | exact absurd rfl (hn _)
       | simp [Instr.typeAssert,run_underlying hd,gK hi og]
     rw [cm,gZ]
     exact a8 h (by simp only [aE,aH]; exact ⟨_,rfl,_,_,rfl,N3,_,_,rfl,rfl,rfl⟩)
   . trivial
 . trivial
theorem CP (h:bp g U w) {t:TypeId} {mu:Bool} {l c:AV} {vl vc:Value} (hl:aE g l vl) (hc:aE g c vc) :
 ay.Fits C g U (sT C.P t mu l c) ((do let x <- Instr.makeSlice t vl vc; pure (Next.value x):Sem Next).run C.P w):=by
 unfold sT
 split
 . rename_i e sz kl l kc c hs
   split
   . rename_i z hz
     rintro ⟨h0,rfl,h1⟩
     obtain ⟨i,zv,hu,hi,og,vS,eH,pE,hb,_⟩:=iN hs
     obtain ⟨i',zv',ky,EM,hm⟩:=mY hz
     rw [hi] at ky; cases ky
     rw [og] at EM; cases EM
     obtain ⟨h2,h3⟩:=eJ (g:=g) hm
     simp only [aE] at hl hc
     subst hl hc
     have ZI:(i.bytes:Int) * l <= 281474976710656:=by
      have e1:(i.bytes:Int) * l <= 32768 * l:=Int.mul_le_mul_of_nonneg_right (by omega) h0
      omega
     have gZ:=run_make (P:=C.P) w t e i zv hu hi og kl kc l l h0 (Int.le_refl _) ZI (by omega)
     have y8:=tb (g:=g) h2 l.toNat
     have Z8:madeCells zv.cells (l.toNat * i.size)=(Array.range (l.toNat * zv.cells.size)).map (zv.cells[· % zv.cells.size]!):=by rw [eH,<- vS]; rfl
     have uY:∀ u ∈ (madeCells zv.cells (l.toNat * i.size)).toList,u.oneCell'=true:=fun u hu=>by
      rw [Z8] at hu
      simp only [Array.toList_map,List.mem_map] at hu
      obtain ⟨j,_,rfl⟩:=hu
      have aM:j % zv.cells.size < zv.cells.size:=Nat.mod_lt _ (by omega)
      rw [getElem!_pos zv.cells _ aM]
      exact h3 _ (by simp)
     rw [<- Z8] at y8
     have hlen:(madeCells zv.cells (l.toNat * i.size)).toList.length=l.toNat * sz:=by rw [Z8]; simp [vS]
     have Hu:z.length=sz:=by have:=h2.length; simp at this; omega
     simp only [cm,gZ,cI,cP]
     cases mu
     . have:=o9 (C:=C) (del:=none) (e:=e) (sz:=sz) (n:=l.toNat) (c:=l.toNat) h (vs:=(madeCells zv.cells (l.toNat * i.size)).toList) (rest:=[]) y8 uY (by simp) (by rw [kZ,Hu]) (by simpa using hlen) (gE _) (by unfold maxLen; omega)
       simpa using this
     . have:=qe (C:=C) (del:=none) (e:=e) (sz:=sz) (n:=l.toNat) (c:=l.toNat) h (vs:=(madeCells zv.cells (l.toNat * i.size)).toList) (rest:=[]) y8 uY (by simp) (by simpa using hlen) (gE _) (by unfold maxLen; omega)
       simpa using this
   . trivial
 . trivial
theorem IY (h:bp g U w) {t ty:TypeId} {x:AV} {v:Value} (hx:aE g x v) :
 ay.Fits C g U (yJ C.P t x U) ((do let r <- Builtin.clear_ #[t] ty #[v]; pure (Next.value r):Sem Next).run C.P w):=by
 unfold yJ
 split
 . rename_i e sz b off n jq e' hs
   split
   . rename_i l z hb hz
     rintro ⟨rfl,h1⟩
     obtain ⟨i,zv,hu,hi,og,vS,eH,pE,_⟩:=iN hs
     obtain ⟨i',zv',ky,EM,hm⟩:=mY hz
     rw [hi] at ky; cases ky
     rw [og] at EM; cases EM
     obtain ⟨h2,h3⟩:=eJ (g:=g) hm
     simp only [aE] at hx
     obtain ⟨y,c,hy,rfl,_⟩:=hx
     have Hu:z.length=jq:=by have:=h2.length; simp at this; omega
     have y8:=tb (g:=g) h2 n
     have hzc:Builtin.zeroCells zv.cells n=(Array.range (n * zv.cells.size)).map (zv.cells[· % zv.cells.size]!):=rfl
     obtain ⟨w',gD,eE⟩:=wm (C:=C) (off:=off) h hb hy y8 (lZ h3 n (by omega)) (by rw [kZ,Hu]; exact h1)
     rw [<- hzc] at gD
     by_cases hn:n=0
     . subst hn
       have e0:U.cG b (aK l off (cN 0 z))=U.cG b l:=by simp [aK,cN]
       simp only [Builtin.clear_,cm,cP,cI]
       simp [run_underlying hu]
       refine ⟨_,w,g,.inl rfl,Gh.Le.refl g,?_,by simp only [aE]; exact ⟨[],rfl,by simp [aH]⟩⟩
       show bp g (U.cG b (aK l off (cN 0 z))) w
       rw [e0]; exact h.acX hb
     . have hz2:=gK (P:=C.P) hi og w
       have ZK:(Builtin.clear_ #[t] ty #[.slice (some ⟨y.aN,off,none⟩) n c]).run C.P w=.ok (.tuple #[]) w':=by
        simp [Builtin.clear_,run_underlying hu,hz2,gD,hn]
       simp only [cm,ZK,cI,cP]
       exact ⟨_,w',g,.inl rfl,Gh.Le.refl g,eE,by simp only [aE]; exact ⟨[],rfl,by simp [aH]⟩⟩
   . trivial
 . trivial
theorem Bg:∀ {ks vs:List AV},ks.length=vs.length->(ks.zip vs).map (·.1)=ks
 | [],[],_=>rfl
 | [],_::_,h=>by simp at h
 | _::_,[],h=>by simp at h
 | k::ks,v::vs,h=>by simp only [List.zip_cons_cons,dV]; rw [Bg (by simpa using h)]
theorem Bh:∀ {ks vs:List AV},ks.length=vs.length->(ks.zip vs).map (·.2)=vs
 | [],[],_=>rfl
 | [],_::_,h=>by simp at h
 | _::_,[],h=>by simp at h
 | k::ks,v::vs,h=>by simp only [List.zip_cons_cons,dV]; rw [Bh (by simpa using h)]
theorem Jy (h:bp g U w) {t:TypeId} {m:AV} {v:Value} (hm:aE g m v):ay.Fits C g U (H2 C.P t m) ((do let x <- Instr.range t v; pure (Next.value x):Sem Next).run C.P w):=by
 unfold H2
 split
 . rename_i p ks vs ht
   obtain ⟨fk,e⟩:=p
   obtain ⟨kt,hu,_⟩:=zl ht
   simp only [aE] at hm
   obtain ⟨r,es,clock,l,rfl,hr,hp,hs,h1,h2⟩:=hm
   obtain ⟨q1,q2⟩:=h.cj r es clock hr
   have hlen:ks.length=vs.length:=by
    have a:=h1.length
    have b:=h2.length
    simp at a b; omega
   have si:(getObj r).run C.P w=.ok (.map es clock) w:=by simp [getObj,Sem.run,q1]
   obtain ⟨b,g',f1,f2,f3,f4⟩:=h.tL (.mapIter (some r) clock #[] clock) 0 0 (.iter (ks.zip vs) none) fun g' hle hi NM =>
    ⟨r,es,clock,#[],heap_alloc_new w _,hle.cj _ _ hr,⟨l,by
      have:(es.toList.filter fun e=>!(#[]:Array Nat).contains e.born)=es.toList:=by simp
      rw [this]; exact hp,by rw [Bg hlen]; exact h1.mono hle,by rw [Bh hlen]; exact h2.mono hle⟩,trivial⟩
   simp only [Instr.range,cm,run_underlying hu,cI,si,cP,run_newObj]
   exact ⟨_,_,g',b,rfl,f1,f2,f4,by simp only [NV.at,aE]; exact ⟨_,f3,rfl⟩⟩
 . trivial
theorem Fg:∀ {l:List (AV × AV)} {i:Nat} {x:AV × AV},l[i]?=some x->(x,l.eraseIdx i) ∈ sV l
 | [],i,x,h=>by simp at h
 | y::l,0,x,h=>by simp at h; subst h; simp [sV]
 | y::l,i+1,x,h=>by
   simp only [List.getElem?_cons_succ] at h
   simp only [sV,List.eraseIdx_cons_succ,cF,List.mem_map]
   exact .inr ⟨_,Fg h,rfl⟩
theorem aH.eraseIdx:∀ {l:List AV} {vs:List Value} (i:Nat),aH g l vs->aH g (l.eraseIdx i) (vs.eraseIdx i)
 | [],_,_,h=>by simp only [aH] at h; subst h; simp [aH]
 | y::ys,_,0,h=>by
   simp only [aH] at h
   obtain ⟨v,vs,rfl,h1,h2⟩:=h
   simpa using h2
 | y::ys,_,i+1,h=>by
   simp only [aH] at h
   obtain ⟨v,vs,rfl,h1,h2⟩:=h
   simp only [List.eraseIdx_cons_succ,aH]
   exact ⟨v,_,rfl,h1,aH.eraseIdx i h2⟩
theorem nu {α β:Type} (f:α->β):∀ (l:List α) (i:Nat),(l.eraseIdx i).map f=(l.map f).eraseIdx i
 | [],i=>by simp
 | x::l,0=>by simp
 | x::l,i+1=>by simp [nu f l i]
theorem FV {α:Type} {l m:List α} (h:l.Perm m) {i j:Nat} {e:α} (hi:l[i]?=some e) (hj:m[j]?=some e):(l.eraseIdx i).Perm (m.eraseIdx j):=by
 obtain ⟨h1,h2⟩:=de.1 hi
 obtain ⟨h3,h4⟩:=de.1 hj
 have el:l=l.take i++e::l.drop (i+1):=by
  conv=>lhs; rw [<- List.take_append_drop i l,fU h1,h2]
 have em:m=m.take j++e::m.drop (j+1):=by
  conv=>lhs; rw [<- List.take_append_drop j m,fU h3,h4]
 have hp:(l.take i++e::l.drop (i+1)).Perm (m.take j++e::m.drop (j+1)):=by rw [<- el,<- em]; exact h
 have h5:=(List.perm_middle.symm.trans hp).trans List.perm_middle
 rw [List.eraseIdx_eq_take_drop_succ,List.eraseIdx_eq_take_drop_succ]
 exact List.Perm.cons_inv h5
theorem Jb {es:List MapEntry} (hn:(es.map (·.born)).Nodup) {seen:Array Nat} {e:MapEntry} {j:Nat} (hj:(es.filter fun x=>!seen.contains x.born)[j]?=some e) :
 (es.filter fun x=>!(seen.push e.born).contains x.born)=(es.filter fun x=>!seen.contains x.born).eraseIdx j:=by
 have e1:(es.filter fun x=>!(seen.push e.born).contains x.born)=(es.filter fun x=>!seen.contains x.born).filter fun x=>x.born != e.born:=by
  rw [List.filter_filter]
  apply List.filter_congr
  intro x _
  simp only [Array.contains_push,Bool.not_or]
  rw [Bool.and_comm]
  congr 1
 rw [e1]
 have AT:((es.filter fun x=>!seen.contains x.born).map (·.born)).Nodup:=List.Nodup.sublist (List.Sublist.map _ List.filter_sublist) hn
 generalize (es.filter fun x=>!seen.contains x.born)=l at hj AT
 clear e1 hn es
 induction l generalizing j with
 | nil=>simp at hj
 | cons y l ih =>
   simp only [dV,List.nodup_cons] at AT
   cases j with
   | zero =>
     simp at hj; subst hj
     simp only [List.filter_cons,bne_self_eq_false,bC,if_false,List.eraseIdx_zero,List.tail_cons]
     rw [List.filter_eq_self]
     intro x hx
     simp only [bne_iff_ne,ne_eq]
     intro he
     exact AT.1 (he ▸ List.mem_map_of_mem hx)
   | succ j =>
     simp only [List.getElem?_cons_succ] at hj
     have cV:y.born ≠ e.born:=fun he=>AT.1 (he ▸ List.mem_map_of_mem (fl hj))
     simp only [List.filter_cons,bne_iff_ne,ne_eq,cV,not_false_eq_true,if_true,List.eraseIdx_cons_succ]
     rw [ih hj AT.2]
theorem LX (h:bp g U w) {i:AV} {v:Value} {ty:TypeId} (hi:aE g i v):ay.Fits C g U (ry i U) ((do let x <- Instr.next v false ty; pure (Next.value x):Sem Next).run C.P w):=by
 unfold ry
 split
 . rename_i o
   simp only [aE] at hi
   obtain ⟨p,hp,rfl⟩:=hi
   split
   . rename_i cur hit
     obtain ⟨p',k1,k2,m,es,clock,seen,k3,k4,⟨l,k5,k6,k7⟩,k8⟩:=h.live o _ (St.wZ.1 hit)
     rw [hp] at k1; cases k1
     obtain ⟨q1,q2⟩:=h.cj m es clock k4
     simp only [jU,aH,List.map_eq_nil_iff] at k6
     subst k6
     have SS:=k5.symm.eq_nil
     have NF:(getObj p.aN).run C.P w=.ok (.mapIter (some m) clock seen clock) w:=by simp [getObj,Sem.run,k3]
     have NG:(getObj m).run C.P w=.ok (.map es clock) w:=by simp [getObj,Sem.run,q1]
     have Lp:(!seen.isEmpty && !es.isEmpty && es.all (fun e=>decide (e.born >= clock)))=false:=by
      cases he:es.isEmpty
      . have:es.all (fun e=>decide (e.born >= clock))=false:=by
         rw [Array.all_eq_false]
         have h0:0 < es.size:=by
          rcases Nat.eq_zero_or_pos es.size with h0 | h0
          . simp [Array.isEmpty,h0] at he
          . exact h0
         refine ⟨0,h0,?_⟩
         have:=q2.2 es[0] (by simp)
         simp; omega
        simp [this]
      . simp
     have acy:(es.filter fun e=>!seen.contains e.born)=#[]:=by
      apply Array.ext'
      simpa using SS
     simp only [Instr.next,cm,NF,cI,NG,Lp,eZ,bC,if_false,cP,acy]
     have e2:(#[]:Array MapEntry).filter (fun e=>decide (e.born < clock))=#[]:=by simp
     have e3:(#[]:Array MapEntry).filter (fun e=>decide (e.born >= clock))=#[]:=by simp
     simp [choose,Sem.run,Question.forced,Result.andThen]
     exact a8 h (by simp only [aE,aH]; exact ⟨[.bool false],rfl,_,_,rfl,rfl,rfl⟩)
   . rename_i x xs cur hit
     obtain ⟨p',k1,k2,m,es,clock,seen,k3,k4,⟨l,k5,k6,k7⟩,k8⟩:=h.live o _ (St.wZ.1 hit)
     rw [hp] at k1; cases k1
     obtain ⟨q1,q2⟩:=h.cj m es clock k4
     have NF:(getObj p.aN).run C.P w=.ok (.mapIter (some m) clock seen clock) w:=by simp [getObj,Sem.run,k3]
     have Lp:(!seen.isEmpty && !es.isEmpty && es.all (fun e=>decide (e.born >= clock)))=false:=by
      cases he:es.isEmpty
      . have:es.all (fun e=>decide (e.born >= clock))=false:=by
         rw [Array.all_eq_false]
         have h0:0 < es.size:=by
          rcases Nat.eq_zero_or_pos es.size with h0 | h0
          . simp [Array.isEmpty,h0] at he
          . exact h0
         refine ⟨0,h0,?_⟩
         have:=q2.2 es[0] (by simp)
         simp; omega
        simp [this]
      . simp
     generalize hL:(es.filter fun e=>!seen.contains e.born)=L
     have J6:(es.toList.filter fun e=>!seen.contains e.born)=L.toList:=by rw [<- hL]; simp
     rw [J6] at k5
     have mN:∀ e ∈ L.toList,e ∈ es.toList:=fun e he=>by rw [<- J6] at he; exact (List.mem_filter.1 he).1
     have hlen:l.length=xs.length+1:=by have:=k6.length; simpa using this
     have G3:L.size=xs.length+1:=by rw [<- hlen,k5.length_eq]; simp
     have hold:L.filter (fun e=>decide (e.born < clock))=L:=by
      apply Array.ext'
      rw [Array.toList_filter,List.filter_eq_self]
      intro e he
      have:=q2.2 e (mN e he)
      simpa using this
     have sj:L.filter (fun e=>decide (e.born >= clock))=#[]:=by
      apply Array.ext'
      rw [Array.toList_filter]
      apply List.filter_eq_nil_iff.2
      intro e he
      have:=q2.2 e (mN e he)
      simp; omega
     have hem:L.isEmpty=false:=by simp [Array.isEmpty,G3]
     have key:∀ (w1:World) (c:Nat),w1.heap=w.heap->w1.os=w.os->w1.tape=w.tape->w1.output=w.output->c < L.size ->
      ∀ e,L[c]?=some e->∃ u w' g' v x',(setObj p.aN (.mapIter (some m) clock (seen.push e.born) clock)).run C.P w1=.ok () w'/\u=Value.tuple #[.bool true,e.key,e.val] /\
       (v,x') ∈ (sV (x::xs)).map (fun p=>(AV.aG [.bool true,p.1.1,p.1.2],Live.iter p.2 (some p.1)))/\Gh.Le g g'/\bp g' (U.set o x') w'/\aE g' v u:=fun w1 c e1 e2 e3 e4 hc e he=>by
      have mh:L.toList[c]?=some e:=by rw [lK]; exact he
      obtain ⟨a,ha⟩:=List.getElem?_of_mem (k5.mem_iff.2 (fl mh))
      have Ew:a < (x::xs).length:=by
       have:=(de.1 ha).1
       rw [hlen] at this; simpa using this
      have Kk:(x::xs)[a]?=some ((x::xs)[a]):=mQ Ew
      generalize (x::xs)[a]=kv at Kk
      obtain ⟨vk,bM,oP⟩:=k6.get (i:=a) (x:=kv.1) (by rw [mr,Kk]; rfl)
      obtain ⟨vv,hvv,iT⟩:=k7.get (i:=a) (x:=kv.2) (by rw [mr,Kk]; rfl)
      rw [mr,ha] at bM hvv
      simp at bM hvv
      subst bM hvv
      have wR:(setObj p.aN (.mapIter (some m) clock (seen.push e.born) clock)).run C.P w1=.ok () { w1 with heap:=w1.heap.setIfInBounds p.aN (.mapIter (some m) clock (seen.push e.born) clock) }:=by
       simp [setObj,Sem.run,e1,k3]
      have aM:=(kG.1 k3).1
      refine ⟨_,_,g,_,_,wR,rfl,List.mem_map.2 ⟨_,Fg Kk,rfl⟩,Gh.Le.refl g,?_,?_⟩
      . refine h.rewrite (St.wZ.1 hit) hp ⟨e2,e3,e4,by simp [e1]⟩ (fun k hk _=>by simp only [e1]; exact Array.getElem?_setIfInBounds_ne (Ne.symm hk)) (fun o=>?_) ?_ ?_
        . cases ei:g.cC p.aN o with
          | none=>rfl
          | some u=>have:=(h.cC _ _ _ ei).1; simp [World.cell?,k3] at this
        . cases ei:g.cj p.aN with
          | none=>rfl
          | some u=>have:=(h.cj _ _ _ ei).1; rw [k3] at this; cases this
        . refine ⟨m,es,clock,seen.push e.born,by simp [e1,aM],k4,⟨l.eraseIdx a,?_,?_,?_⟩,e,?_,by simp,oP,iT⟩
          . have AP:(es.toList.filter fun e=>!seen.contains e.born)[c]?=some e:=by rw [J6]; exact mh
            rw [Jb q2.1 AP,J6]
            exact FV k5 ha mh
          . rw [nu,nu]; exact k6.eraseIdx a
          . rw [nu,nu]; exact k7.eraseIdx a
          . exact mN e (fl mh)
      . simp only [aE,aH]
        exact ⟨_,rfl,_,_,rfl,rfl,_,_,rfl,oP,_,_,rfl,iT,rfl⟩
     have Hh:∀ (n:Nat) (w1:World),(choose (.mapNext L.size)).run C.P w=.ok n w1->w1.heap=w.heap->w1.os=w.os->w1.tape=w.tape->w1.output=w.output->n < L.size ->
      ay.Fits C g U (.lh o ((sV (x::xs)).map fun p=>(.aG [.bool true,p.1.1,p.1.2],.iter p.2 (some p.1)))) ((do let x <- Instr.next (.pointer (some ⟨p.aN,0,none⟩)) false ty; pure (Next.value x):Sem Next).run C.P w):=fun n w1 hch e1 e2 e3 e4 hn=>by
      have NG:(getObj m).run C.P w=.ok (.map es clock) w:=by simp [getObj,Sem.run,q1]
      have ZB:L[n]?=some L[n]:=by simp [hn]
      generalize L[n]=e at ZB
      obtain ⟨u,w',g',v,x',r1,r2,r3,r4,r5,r6⟩:=key w1 n e1 e2 e3 e4 hn e ZB
      have acq:((#[]:Array (Option MapEntry))++(L++#[]).map some).size=L.size:=by simp
      have hcn:((#[]:Array (Option MapEntry))++(L++#[]).map some)[n]?=some (some e):=by simp [ZB]
      simp only [Instr.next,cm,NF,cI,NG,Lp,eZ,bC,if_false,cP,hL,hold,sj,hem,acq,hch,hcn,r1]
      exact ⟨_,w',g',v,x',rfl,r3,r4,r5,by rw [<- r2]; exact r6⟩
     by_cases hf:L.size <= 1
     . refine Hh 0 w ?_ rfl rfl rfl rfl (by omega)
       simp [choose,Sem.run,Question.forced,hf]
     . refine Hh (w.tape w.drawn (.mapNext L.size) % L.size) w.drew ?_ rfl rfl rfl rfl (Nat.mod_lt _ (by omega))
       have hfq:Question.forced (.mapNext L.size)=false:=by simp only [Question.forced,decide_eq_false_iff_not]; exact hf
       simp only [choose,Sem.run,hfq,bC,if_false,Question.cut]
       rfl
   . trivial
 . trivial
theorem I0 (h:bp g U w) {i:AV} {v:Value} (hi:aE g i v):ay.Fits C g U (mf i U) ((do let x <- Instr.entry v; pure (Next.value x):Sem Next).run C.P w):=by
 unfold mf
 split
 . rename_i o
   simp only [aE] at hi
   obtain ⟨p,hp,rfl⟩:=hi
   split
   . rename_i rest kv hit
     obtain ⟨p',k1,k2,m,es,clock,seen,k3,k4,_,e,k5,k6,k7,k8⟩:=h.live o _ (St.wZ.1 hit)
     rw [hp] at k1; cases k1
     obtain ⟨q1,q2⟩:=h.cj m es clock k4
     have NF:(getObj p.aN).run C.P w=.ok (.mapIter (some m) clock seen clock) w:=by simp [getObj,Sem.run,k3]
     have NG:(getObj m).run C.P w=.ok (.map es clock) w:=by simp [getObj,Sem.run,q1]
     have Ls:es.find? (fun x=>x.born == e.born)=some e:=by
      rw [<- Array.find?_toList]
      have hn:=q2.1
      generalize es.toList=l at k5 hn
      induction l with
      | nil=>simp at k5
      | cons y l ih =>
        simp only [dV,List.nodup_cons] at hn
        rw [List.find?_cons]
        rcases cF.1 k5 with rfl | hm
        . simp
        . have:(y.born == e.born)=false:=by
           simp only [beq_eq_false_iff_ne,ne_eq]
           intro he
           exact hn.1 (he ▸ List.mem_map_of_mem hm)
          rw [this]
          exact ih hm hn.2
     simp only [Instr.entry,cm,NF,cI,k6,NG,bne_self_eq_false,bC,if_false,eZ,cP,Ls]
     exact a8 h (by simp only [aE,aH]; exact ⟨_,rfl,_,_,rfl,k7,_,_,rfl,k8,rfl⟩)
   . trivial
 . trivial
theorem AK (hG:ix C g) {ρ:Env} {a:Act} (hr:gM g ρ a.tmps) (parts:Array (Nat × Operand)) :
 (parts.map fun (i,x)=>(i,a.eval x)).size=(mg C ρ parts).length/\∀ (i:Nat) (p:Nat × AV) (q:Nat × Value),(mg C ρ parts)[i]?=some p->(parts.map fun (i,x)=>(i,a.eval x))[i]?=some q->p.1=q.1/\aE g p.2 q.2:=by
 refine ⟨by simp [mg],fun i p q h1 h2=>?_⟩
 simp only [mg,mr,lK,o1] at h1
 obtain ⟨y,hy,rfl⟩:=h1
 simp only [Array.getElem?_map,hy,Option.map_some,iW] at h2
 subst h2
 exact ⟨rfl,tm hG hr _⟩
theorem KG (hG:ix C g) {ρ:Env} {a:Act} (hr:gM g ρ a.tmps) (x:Option Operand):match x.map (ρ.ev C),x.map a.eval with | none,none=>True | some x,some u=>aE g x u | _,_=>False:=by
 cases x with
 | none=>trivial
 | some x=>exact tm hG hr x
theorem C4 {P:Program} {w:World} {t u ty e:TypeId} {i:TypeInfo} {z:Value} {k k':IntKind} (ht:P.underlying t=some (.slice e)) (hu:P.underlying u=some (.int k')) (hi:P.info? e=some i) (hz:i.zero=some z) (Cu:i.bytes <= 32768) (hp:0 < i.size)
 {n:Nat} (h0:0 < n) (hn:n <= 65536) :
 (Builtin.append_ #[t,u] ty #[.slice none 0 0,.int k (n:Int)]).run P w =
   .ok (.slice (some ⟨w.heap.size,0,none⟩) n (grownCap w n 0 e))
    (w.drew.alloc (.cells (Builtin.zeroCells z.cells n++Builtin.zeroCells z.cells (grownCap w n 0 e - n)) e)):=by
 have acJ:IntKind.i64.wrap (n:Int)=n:=x8 ⟨by omega,by omega⟩
 have SH:¬ (9223372036854775807 < (n:Int)):=by omega
 have mD:n * i.bytes <= 140737488355328:=Nat.le_trans (Nat.mul_le_mul hn Cu) (by omega)
 have Eu:=growslice_fits (old:=0) (need:=n) (bytes:=i.bytes) (by omega) mD
 have SG:¬ (281474976710656 < Builtin.nextslicecap n 0 * i.bytes):=by omega
 have pc:¬ ((281474976710656:Int) < (n:Int) * (i.bytes:Int)):=by
  have:(n:Int) * (i.bytes:Int)=((n * i.bytes:Nat):Int):=by simp
  omega
 have hns:¬ (n=0\/i.size=0):=by omega
 have aes:¬ ((n:Int) < 0):=by omega
 simp [Builtin.append_,run_underlying ht,run_underlying hu,sizeOf,typeInfo,zeroValue,hi,hz,acJ,SH,SG,pc,hns,aes,Question.forced,newRow,grownCap,asInt,asIntOf,Builtin.firstCells]
 have e1:n ≠ 0:=by omega
 have e2:n * i.size ≠ 0:=Nat.mul_ne_zero e1 (by omega)
 rw [if_neg e1,if_neg e2]
theorem Ln {P:Program} {t u:TypeId} {q:TypeId × Nat × List AV} (h:Cp P t u=some q):∃ k,P.underlying u=some (.int k)/\fj P t=some (q.1,q.2.1)/\pC P q.1=some q.2.2:=by
 unfold Cp at h
 split at h
 . rename_i k hu
   split at h
   . rename_i e sz hs
     split at h
     . rename_i z hz
       cases h
       exact ⟨k,hu,hs,hz⟩
     . cases h
   . cases h
 . cases h
theorem Lm (h:bp g U w) {t u ty:TypeId} {mu:Bool} {q:TypeId × Nat × List AV} (hq:Cp C.P t u=some q) {s y:AV} {v v2:Value} (hs:aE g s v) (hy:aE g y v2) :
 ay.Fits C g U (F3 q mu s y) ((do let r <- Builtin.append_ #[t,u] ty #[v,v2]; pure (Next.value r):Sem Next).run C.P w):=by
 obtain ⟨k',hu,ni,hz⟩:=Ln hq
 unfold F3
 split
 . rename_i k n
   rintro ⟨h0,h1⟩
   obtain ⟨i,zv,ht,hi,og,vS,eH,pE,Cu,hz1⟩:=iN ni
   obtain ⟨i',zv',ky,EM,hm⟩:=mY hz
   rw [hi] at ky; cases ky
   rw [og] at EM; cases EM
   obtain ⟨h2,h3⟩:=eJ (g:=g) hm
   simp only [aE] at hs hy
   subst hs hy
   obtain ⟨m,rfl⟩:∃ m:Nat,n=m:=⟨n.toNat,by omega⟩
   simp only [dL]
   have gq:=grownCap_ge w m 0 q.1
   have hle:=grownCap_le_maxLen w m 0 q.1 (by unfold maxLen; omega)
   rw [cm,C4 (k:=k) ht hu hi og Cu (by omega) (by omega) (by omega)]
   have eE:=h.grow (ku w)
   have y8:=tb (g:=g) h2 m
   have Hu:q.2.2.length=i.size:=by have:=h2.length; simp at this; omega
   have uY:=lZ h3 m (by omega)
   have UU:=lZ h3 (grownCap w m 0 q.1 - m) (by omega)
   have hlen:(Builtin.zeroCells zv.cells m).toList.length+(Builtin.zeroCells zv.cells (grownCap w m 0 q.1 - m)).toList.length=grownCap w m 0 q.1 * q.2.1:=by
    rw [sr,sr,size_zeroCells,size_zeroCells,vS,<- Nat.add_mul,<- eH]
    congr 1; omega
   have ew:Builtin.zeroCells zv.cells m++Builtin.zeroCells zv.cells (grownCap w m 0 q.1 - m)=((Builtin.zeroCells zv.cells m).toList++(Builtin.zeroCells zv.cells (grownCap w m 0 q.1 - m)).toList).toArray:=by simp
   rw [ew]
   simp only [cI,cP]
   cases mu
   . exact o9 eE y8 uY UU (by rw [kZ,Hu,eH]) hlen gq hle
   . exact qe eE y8 uY UU hlen gq hle
 . trivial
theorem M0 (h:bp g U w) {t ty:TypeId} {x:AV} {v:Value} (hx:aE g x v) :
 ay.Fits C g U (GD (fj C.P t) x) ((do let r <- Builtin.cap_ #[t] ty #[v]; pure (Next.value r):Sem Next).run C.P w):=by
 unfold GD
 split
 . rename_i q hq
   obtain ⟨e,sz⟩:=q
   obtain ⟨i,z,ht,_⟩:=iN hq
   simp only [aE] at hx
   subst hx
   have:(Builtin.cap_ #[t] ty #[.slice none 0 0]).run C.P w=.ok (.int .i64 0) w:=by simp [Builtin.cap_,run_underlying ht]; rfl
   rw [cm,this]
   exact a8 h (by simp only [aE])
 . trivial
theorem Gv (h:bp g U w) {t u ty:TypeId} {mu:Bool} {s y:AV} {v v2:Value} (hs:aE g s v) (hy:aE g y v2) :
 ay.Fits C g U (Ae C.P t u mu s y U) ((do let r <- Builtin.append_ #[t,u] ty #[v,v2]; pure (Next.value r):Sem Next).run C.P w):=by
 unfold Ae
 split
 . rename_i q hq
   exact Lm h hq hs hy
 . exact Gu h hs hy
theorem K7 (h:bp g U w) (hG:ix C g) {ρ:Env} {a:Act} (hr:gM g ρ a.tmps) (mu:Bool) (c:Call) (ty:TypeId) :
 ay.Fits C g U (Ag C mu c ρ U) ((do let d <- resolve a.eval c ty; invoke d.target d.args:Sem Next).run C.P w):=by
 obtain ⟨callee,⟨args⟩,⟨argTypes⟩⟩:=c
 have e:=fun x=>tm hG hr x
 have fin:ay.Fits C g U (match callee,argTypes,args with
  | .value f,_,args=>jW C.P (ρ.ev C f) (args.map (ρ.ev C))
  | .builtin .len,[t],[x]=>HF C.P t (ρ.ev C x) U
  | .builtin .append,[t,u],[s,y]=>Ae C.P t u mu (ρ.ev C s) (ρ.ev C y) U
  | .builtin .cap,[t],[x]=>GD (fj C.P t) (ρ.ev C x)
  | .builtin .min,_,[x,y]=>u5 (ρ.ev C x) (ρ.ev C y)
  | .builtin .max,_,[x,y]=>Bz (ρ.ev C x) (ρ.ev C y)
  | .builtin .clear,[t],[x]=>yJ C.P t (ρ.ev C x) U
  | _,_,_=>.bad) ((do let d <- resolve a.eval ⟨callee,⟨args⟩,⟨argTypes⟩⟩ ty; invoke d.target d.args:Sem Next).run C.P w):=by
  split
  . rename_i f
    have:=SB (C:=C) h (e f) (Ai hG hr args)
    have e2:(args.map a.eval).toArray=(⟨args⟩:Array Operand).map a.eval:=by simp
    rw [e2] at this
    exact this
  . rename_i t x
    have:=Ol (C:=C) (ty:=ty) h (t:=t) (e x)
    simpa only [resolve,invoke,builtin,cm,cP,cI,List.map_toArray,dV,jU] using this
  . rename_i t u s y
    have:=Gv (C:=C) (ty:=ty) (mu:=mu) h (t:=t) (u:=u) (e s) (e y)
    simpa only [resolve,invoke,builtin,cm,cP,cI,List.map_toArray,dV,jU] using this
  . rename_i t x
    have:=M0 (C:=C) (ty:=ty) h (t:=t) (e x)
    simpa only [resolve,invoke,builtin,cm,cP,cI,List.map_toArray,dV,jU] using this
  . rename_i x y
    have:=Ov (C:=C) (ty:=ty) (ts:=⟨argTypes⟩) h (e x) (e y)
    simpa only [resolve,invoke,builtin,cm,cP,cI,List.map_toArray,dV,jU] using this
  . rename_i x y
    have:=Ou (C:=C) (ty:=ty) (ts:=⟨argTypes⟩) h (e x) (e y)
    simpa only [resolve,invoke,builtin,cm,cP,cI,List.map_toArray,dV,jU] using this
  . rename_i t x
    have:=IY (C:=C) (ty:=ty) h (t:=t) (e x)
    simpa only [resolve,invoke,builtin,cm,cP,cI,List.map_toArray,dV,jU] using this
  . trivial
 exact fin
theorem S6 (h:bp g U w) (hG:ix C g) {ρ:Env} {a:Act} (hr:gM g ρ a.tmps) (mu:Bool) (o:Oper):ay.Fits C g U (jH C mu o.op ρ U) ((execOp a.eval o).run C.P w):=by
 have e:=fun x=>tm hG hr x
 obtain ⟨dst,op,type,pos,after,guard⟩:=o
 unfold jH
 dsimp only
 split
 . exact a8 h (e _)
 . exact a8 h (e _)
 . rename_i c x y
   unfold aO
   split
   . rename_i t ht
     have hc:=e c
     rw [ht] at hc
     simp only [aE] at hc
     simp only [execOp,hc,asBool,cm,cP,cI]
     refine a8 h ?_
     cases t
     . exact e _
     . exact e _
   . trivial
 . exact IQ h
 . exact MU h (e _)
 . obtain ⟨h1,h2⟩:=AK hG hr ‹_›
   exact IW h h1 h2
 . obtain ⟨h1,h2⟩:=AK hG hr ‹_›
   exact Bo h h1 h2
 . exact uB h (e _) (e _) (e _)
 . exact uB h (e _) (e _) (e _)
 . exact LN h (e _)
 . exact JI h (e _) (e _)
 . exact DS h rfl (e _)
 . exact MS h _ _ (e _) (e _)
 . exact Uf h (e _)
 . exact La h (e _)
 . exact CO h (e _)
 . rename_i fn first cap
   simp only [execOp,Instr.makeFunc,cm,cP,cI]
   refine a8 h ?_
   simp only [aE]
   exact ⟨first.toList.map a.eval,cap.toList.map a.eval,by congr 1 <;> (apply Array.ext'; simp),Ai hG hr _,Ai hG hr _⟩
 . simp only [execOp,Instr.makeMap,Option.map_none,cm,cP,cI,run_newObj]
   exact LW h
 . exact JH h (e _) (KG hG hr _) (KG hG hr _)
 . exact Cj h (e _)
 . exact DI h (e _)
 . exact CG h (e _) (e _)
 . exact Jg h (e _) (e _)
 . exact HJ h (e _) (e _)
 . exact FO h (e _) _
 . exact Jr h (e _)
 . exact Jy h (e _)
 . exact BW h (e _)
 . exact CP h (e _) (e _)
 . exact LX h (e _)
 . exact I0 h (e _)
 . exact K7 h hG hr mu _ _
 . trivial
end
end Go.Rip
