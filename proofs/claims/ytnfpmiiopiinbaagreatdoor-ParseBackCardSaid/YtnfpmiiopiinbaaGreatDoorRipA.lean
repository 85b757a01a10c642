/- Lemmas for the proof: no conditions. -/
import Derived.Test.YtnfpmiiopiinbaaGreatDoorRipZz
import Derived.RangeFuncIn
import Derived.Laws.AppendOwn
import Derived.Below
import Derived.Laws.StructEq
import Derived.Lib.ConvBytes
import Derived.RangeFuncLeaves
import Derived.RangeFuncCalls
import Derived.Laws.MakeOwn
set_option linter.unusedVariables false
set_option linter.unusedSimpArgs false
set_option linter.loopingSimpArgs false
namespace Go.Rip
open Go.RowKit
structure Tok where
 n:Nat
 e:TypeId
 size:Nat
 deriving DecidableEq
inductive lg where
 | full
 | own (τ:Nat)
 | iE
inductive AV where
 | bool (b:Bool)
 | int (k:IntKind) (n:Int)
 | str (s:List UInt8)
 | aY
 | ah
 | jE
 | dV
 | dr
 | box (b off:Nat)
 | cN (l:List AV)
 | vec (n:Nat) (cap:lg) (l:List AV)
 | ms (b off n jr:Nat) (e:TypeId)
 | mp (m:Nat)
 | fY (ks vs:List AV)
 | func (fn:Fn) (first captured:List AV)
 | iface (t:TypeId) (v:AV)
 | agg (l:List AV)
 | aH (l:List AV)
 | rZ (o:Nat)
 | it (o:Nat)
 | any
instance:Inhabited AV:=⟨.any⟩
structure Place where
 aI:Nat
 e:TypeId
 size:Nat
structure fF where
 ρ:Nat->AV
 nt:Nat
 params:Array Tmp
 assign:Code
 body:Code
 state:LoopState
 fZ:Option Code
 tag:Nat
inductive Live where
 | box (l:List AV)
 | tok (t:Tok)
 | mp (ks vs:List AV)
 | loop (L:fF)
 | iter (rest:List (AV × AV)) (cur:Option (AV × AV))
 | tF (t:TypeId) (l:List AV)
structure Gh where
 base:Nat
 w0:World
 place:Nat->Option Place
 cB:Nat->Nat->Option Value
 ca:Nat->Option (Array MapEntry × Nat)
 res:Nat->Bool
def Gh.box (g:Gh) (b:Nat):Option Place:=g.place b
def Gh.tok (g:Gh) (b:Nat):Option (Nat × Nat):=(g.place b).map fun p=>(p.aI,p.size)
def Gh.mp (g:Gh) (b:Nat):Option Nat:=(g.place b).map (·.aI)
theorem Gh.k9 {g:Gh} {b:Nat} {x:Nat × Nat}:g.tok b=some x ↔ ∃ p,g.place b=some p/\p.aI=x.1/\p.size=x.2:=by
 unfold Gh.tok
 cases g.place b with
 | none=>simp
 | some p=>simp [Prod.ext_iff]
theorem Gh.qd {g:Gh} {b:Nat} {x:Nat}:g.mp b=some x ↔ ∃ p,g.place b=some p/\p.aI=x:=by
 unfold Gh.mp
 cases g.place b with
 | none=>simp
 | some p=>simp
def lU (g:Gh) (aI off:Nat) (vs:List Value):Prop:=∀ i u,vs[i]?=some u->g.cB aI (off+i)=some u
def ra (g:Gh) (cap:lg) (aI off n c:Nat):Prop :=
 match cap with
 | .full=>c=n
 | .own τ=>off=0/\g.tok τ=some (aI,c)
 | .iE=>True
def jS:AV->AV->Bool
 | .int k a,.int k' b=>decide (k=k') && decide (a < b)
 | .str a,.str b=>decide (a < b)
 | _,_=>false
def pW (ks:List AV):Prop:=ks.Pairwise (fun a b=>jS a b=true)
def lf (es:Array MapEntry) (clock:Nat):Prop:=(es.toList.map (·.born)).Nodup/\∀ e ∈ es.toList,e.born < clock
mutual
def az (g:Gh):AV->Value->Prop
 | .bool b,v=>v=.bool b
 | .int k n,v=>v=.int k n
 | .str s,v=>v=.string ⟨s.toArray⟩
 | .aY,v=>v=.pointer none
 | .ah,v=>v=.slice none 0 0
 | .jE,v=>v=.map none
 | .dV,v=>v=.nilFunc
 | .dr,v=>v=.nilIface
 | .box b off,v=>∃ x,g.box b=some x/\v=.pointer (some ⟨x.aI,off,none⟩)
 | .cN l,v=>∃ aI off vs,v=.pointer (some ⟨aI,off,none⟩)/\lU g aI off vs/\aA g l vs
 | .vec n cap l,v=>∃ aI off c vs,v=.slice (some ⟨aI,off,none⟩) n c/\n <= c/\c <= maxLen/\ra g cap aI off n c/\lU g aI off vs/\aA g l vs
 | .ms b off n jr e,v=>∃ x c,g.box b=some x/\v=.slice (some ⟨x.aI,off,none⟩) n c/\n <= c/\c <= maxLen/\off+c * jr=x.size/\x.e=e
 | .mp m,v=>∃ r,g.mp m=some r/\v=.map (some r)
 | .fY ks vs,v=>∃ r es clock,∃ l:List MapEntry,v=.map (some r)/\g.ca r=some (es,clock)/\l.Perm es.toList/\pW ks/\aA g ks (l.map (·.key))/\aA g vs (l.map (·.val))
 | .func fn first captured,v=>∃ fs cs,v=.func fn (List.toArray fs) (List.toArray cs)/\aA g first fs/\aA g captured cs
 | .iface t x,v=>∃ u,v=.iface t u/\az g x u
 | .agg l,v=>∃ vs,v=.agg (List.toArray vs)/\(∀ u ∈ vs,u.oneCell'=true)/\aA g l vs
 | .aH l,v=>∃ vs,v=.tuple (List.toArray vs)/\aA g l vs
 | .rZ o,v=>∃ x,g.place o=some x/\v=.func (.yield x.aI) #[] #[]
 | .it o,v=>∃ x,g.place o=some x/\v=.pointer (some ⟨x.aI,0,none⟩)
 | .any,_=>True
def aA (g:Gh):List AV->List Value->Prop
 | [],vs=>vs=[]
 | x::xs,vs=>∃ u us,vs=u::us/\az g x u/\aA g xs us
end
structure Gh.Le (g g':Gh):Prop where
 base:g'.base=g.base
 w0:g'.w0=g.w0
 place:∀ b x,g.place b=some x->g'.place b=some x
 cB:∀ b o x,g.cB b o=some x->g'.cB b o=some x
 ca:∀ b x,g.ca b=some x->g'.ca b=some x
 res:∀ b,g.res b=true->g'.res b=true
 zz:∀ b o,b < g.base->g'.cB b o=g.cB b o
 wK:∀ b,b < g.base->g'.ca b=g.ca b
theorem Gh.Le.refl (g:Gh):Gh.Le g g:=⟨rfl,rfl,fun _ _ h=>h,fun _ _ _ h=>h,fun _ _ h=>h,fun _ h=>h,fun _ _ _=>rfl,fun _ _=>rfl⟩
theorem Gh.Le.trans {a b c:Gh} (h:Gh.Le a b) (k:Gh.Le b c):Gh.Le a c :=
 ⟨k.base.trans h.base,k.w0.trans h.w0,fun _ _ x=>k.place _ _ (h.place _ _ x),fun _ _ _ x=>k.cB _ _ _ (h.cB _ _ _ x),fun _ _ x=>k.ca _ _ (h.ca _ _ x),fun _ x=>k.res _ (h.res _ x),
   fun q o hq=>(k.zz q o (by rw [h.base]; exact hq)).trans (h.zz q o hq),fun q hq=>(k.wK q (by rw [h.base]; exact hq)).trans (h.wK q hq)⟩
structure Gh.ua (g g':Gh):Prop where
 place:∀ b x,g.place b=some x->g'.place b=some x
 cB:∀ b o x,g.cB b o=some x->g'.cB b o=some x
 ca:∀ b x,g.ca b=some x->g'.ca b=some x
theorem Gh.ua.tok {g g':Gh} (h:Gh.ua g g') {b:Nat} {x:Nat × Nat} (hb:g.tok b=some x):g'.tok b=some x:=by
 obtain ⟨p,h1,h2,h3⟩:=Gh.k9.1 hb
 exact Gh.k9.2 ⟨p,h.place _ _ h1,h2,h3⟩
theorem Gh.ua.mp {g g':Gh} (h:Gh.ua g g') {b x:Nat} (hb:g.mp b=some x):g'.mp b=some x:=by
 obtain ⟨p,h1,h2⟩:=Gh.qd.1 hb
 exact Gh.qd.2 ⟨p,h.place _ _ h1,h2⟩
theorem Gh.Le.r {g g':Gh} (h:Gh.Le g g'):Gh.ua g g':=⟨h.place,h.cB,h.ca⟩
theorem Gh.Le.box {g g':Gh} (h:Gh.Le g g') (b:Nat) (x:Place) (hb:g.box b=some x):g'.box b=some x:=h.place b x hb
theorem Gh.Le.tok {g g':Gh} (h:Gh.Le g g') (b:Nat) (x:Nat × Nat) (hb:g.tok b=some x):g'.tok b=some x:=h.r.tok hb
theorem Gh.Le.mp {g g':Gh} (h:Gh.Le g g') (b:Nat) (x:Nat) (hb:g.mp b=some x):g'.mp b=some x:=h.r.mp hb
theorem lU.fh {g g':Gh} (h:Gh.ua g g') {aI off:Nat} {vs:List Value} (hi:lU g aI off vs):lU g' aI off vs:=fun i u hu=>h.cB _ _ _ (hi i u hu)
theorem ra.fh {g g':Gh} (h:Gh.ua g g') {cap:lg} {aI off n c:Nat} (hi:ra g cap aI off n c):ra g' cap aI off n c:=by
 cases cap with
 | full=>exact hi
 | own τ=>exact ⟨hi.1,h.tok hi.2⟩
 | iE=>trivial
mutual
theorem az.fh {g g':Gh} (h:Gh.ua g g'):∀ (x:AV) (v:Value),az g x v->az g' x v
 | .bool _,_,hr=>hr
 | .int _ _,_,hr=>hr
 | .str _,_,hr=>hr
 | .aY,_,hr=>hr
 | .ah,_,hr=>hr
 | .jE,_,hr=>hr
 | .dV,_,hr=>hr
 | .dr,_,hr=>hr
 | .box _ _,_,hr=>by
   simp only [az] at hr ⊢
   obtain ⟨x,hx,hv⟩:=hr
   exact ⟨x,h.place _ _ hx,hv⟩
 | .cN l,_,hr=>by
   simp only [az] at hr ⊢
   obtain ⟨aI,off,vs,hv,hi,hl⟩:=hr
   exact ⟨aI,off,vs,hv,hi.fh h,aA.fh h l vs hl⟩
 | .vec n cap l,_,hr=>by
   simp only [az] at hr ⊢
   obtain ⟨aI,off,c,vs,hv,h1,h2,hc,hi,hl⟩:=hr
   exact ⟨aI,off,c,vs,hv,h1,h2,hc.fh h,hi.fh h,aA.fh h l vs hl⟩
 | .ms _ _ _ _ _,_,hr=>by
   simp only [az] at hr ⊢
   obtain ⟨x,c,hx,r⟩:=hr
   exact ⟨x,c,h.place _ _ hx,r⟩
 | .mp _,_,hr=>by
   simp only [az] at hr ⊢
   obtain ⟨x,hx,hv⟩:=hr
   exact ⟨x,h.mp hx,hv⟩
 | .fY ks vs,_,hr=>by
   simp only [az] at hr ⊢
   obtain ⟨r,es,c,l,hv,he,hp,hs,h1,h2⟩:=hr
   exact ⟨r,es,c,l,hv,h.ca _ _ he,hp,hs,aA.fh h ks _ h1,aA.fh h vs _ h2⟩
 | .func fn first captured,_,hr=>by
   simp only [az] at hr ⊢
   obtain ⟨fs,cs,hv,h1,h2⟩:=hr
   exact ⟨fs,cs,hv,aA.fh h first _ h1,aA.fh h captured _ h2⟩
 | .iface t x,_,hr=>by
   simp only [az] at hr ⊢
   obtain ⟨u,hv,h1⟩:=hr
   exact ⟨u,hv,az.fh h x _ h1⟩
 | .agg l,_,hr=>by
   simp only [az] at hr ⊢
   obtain ⟨vs,hv,h0,h1⟩:=hr
   exact ⟨vs,hv,h0,aA.fh h l _ h1⟩
 | .aH l,_,hr=>by
   simp only [az] at hr ⊢
   obtain ⟨vs,hv,h1⟩:=hr
   exact ⟨vs,hv,aA.fh h l _ h1⟩
 | .rZ o,_,hr=>by
   simp only [az] at hr ⊢
   obtain ⟨x,hx,hv⟩:=hr
   exact ⟨x,h.place _ _ hx,hv⟩
 | .it o,_,hr=>by
   simp only [az] at hr ⊢
   obtain ⟨x,hx,hv⟩:=hr
   exact ⟨x,h.place _ _ hx,hv⟩
 | .any,_,_=>by simp only [az]
theorem aA.fh {g g':Gh} (h:Gh.ua g g'):∀ (l:List AV) (vs:List Value),aA g l vs->aA g' l vs
 | [],_,hr=>by simpa only [aA] using hr
 | x::xs,_,hr=>by
   simp only [aA] at hr ⊢
   obtain ⟨u,us,hv,h1,h2⟩:=hr
   exact ⟨u,us,hv,az.fh h x _ h1,aA.fh h xs _ h2⟩
end
theorem lU.mono {g g':Gh} (h:Gh.Le g g') {aI off:Nat} {vs:List Value} (hi:lU g aI off vs):lU g' aI off vs:=hi.fh h.r
theorem ra.mono {g g':Gh} (h:Gh.Le g g') {cap:lg} {aI off n c:Nat} (hi:ra g cap aI off n c):ra g' cap aI off n c:=hi.fh h.r
theorem az.mono {g g':Gh} (h:Gh.Le g g') (x:AV) (v:Value) (hr:az g x v):az g' x v:=az.fh h.r x v hr
theorem aA.mono {g g':Gh} (h:Gh.Le g g') (l:List AV) (vs:List Value) (hr:aA g l vs):aA g' l vs:=aA.fh h.r l vs hr
theorem aA.length {g:Gh}:∀ {l:List AV} {vs:List Value},aA g l vs->vs.length=l.length
 | [],_,h=>by simp only [aA] at h; simp [h]
 | _::xs,_,h=>by
   simp only [aA] at h
   obtain ⟨u,us,rfl,_,h2⟩:=h
   simp [aA.length h2]
theorem aA.append {g:Gh}:∀ {l l':List AV} {vs vs':List Value},aA g l vs->aA g l' vs'->aA g (l++l') (vs++vs')
 | [],_,_,_,h,h'=>by simp only [aA] at h; subst h; simpa using h'
 | _::xs,_,_,_,h,h'=>by
   simp only [aA,ix] at h ⊢
   obtain ⟨u,us,rfl,h1,h2⟩:=h
   exact ⟨u,us++_,rfl,h1,aA.append h2 h'⟩
theorem aA.get {g:Gh}:∀ {l:List AV} {vs:List Value} {i:Nat} {x:AV},aA g l vs->l[i]?=some x->∃ v,vs[i]?=some v/\az g x v
 | [],_,_,_,_,hx=>by simp at hx
 | y::xs,_,0,x,h,hx=>by
   simp only [aA] at h
   obtain ⟨u,us,rfl,h1,h2⟩:=h
   simp at hx; subst hx; exact ⟨u,rfl,h1⟩
 | y::xs,_,i+1,x,h,hx=>by
   simp only [aA] at h
   obtain ⟨u,us,rfl,h1,h2⟩:=h
   simp at hx
   obtain ⟨v,hv,hr⟩:=aA.get h2 hx
   exact ⟨v,by simpa using hv,hr⟩
theorem aA.drop {g:Gh}:∀ {l:List AV} {vs:List Value} (n:Nat),aA g l vs->aA g (l.drop n) (vs.drop n)
 | _,_,0,h=>by simpa using h
 | [],_,n+1,h=>by simp only [aA] at h; subst h; simp [aA]
 | _::xs,_,n+1,h=>by
   simp only [aA] at h
   obtain ⟨u,us,rfl,h1,h2⟩:=h
   simpa using aA.drop n h2
theorem aA.take {g:Gh}:∀ {l:List AV} {vs:List Value} (n:Nat),aA g l vs->aA g (l.take n) (vs.take n)
 | _,_,0,_=>by simp [aA]
 | [],_,n+1,h=>by simp only [aA] at h; subst h; simp [aA]
 | _::xs,_,n+1,h=>by
   simp only [aA] at h
   obtain ⟨u,us,rfl,h1,h2⟩:=h
   simp only [List.take_succ_cons,aA]
   exact ⟨u,_,rfl,h1,aA.take n h2⟩
theorem aA.Dg {g:Gh}:∀ {l:List AV} {vs:List Value},vs.length=l.length->(∀ (i:Nat) (x:AV) (v:Value),l[i]?=some x->vs[i]?=some v->az g x v)->aA g l vs
 | [],vs,hl,_=>by simp only [aA]; simpa using hl
 | x::xs,[],hl,_=>by simp at hl
 | x::xs,v::vs,hl,h=>by
   simp only [aA]
   exact ⟨v,vs,rfl,h 0 x v rfl rfl,aA.Dg (by simpa using hl) fun i x v hx hv=>h (i+1) x v (by simpa using hx) (by simpa using hv)⟩
def xj (g:Gh) (ks vs:List AV) (es:Array MapEntry):Prop:=∃ l:List MapEntry,l.Perm es.toList/\pW ks/\aA g ks (l.map (·.key))/\aA g vs (l.map (·.val))
def Cu (g:Gh) (es:Array MapEntry) (seen:Array Nat) (rest:List (AV × AV)) (cur:Option (AV × AV)):Prop :=
 (∃ l:List MapEntry,l.Perm (es.toList.filter fun e=>!seen.contains e.born)/\aA g (rest.map (·.1)) (l.map (·.key))/\aA g (rest.map (·.2)) (l.map (·.val))) /\
 (match cur with
  | none=>True
  | some (k,v)=>∃ e ∈ es.toList,seen.back?=some e.born/\az g k e.key/\az g v e.val)
def lV (g:Gh) (w:World) (p:Place):Live->Prop
 | .box l=>∃ cur vs rest,w.heap[p.aI]?=some (.cells cur p.e (0,0))/\cur.size=p.size/\cur.toList=vs++rest/\aA g l vs/\(∀ u ∈ cur.toList,u.oneCell'=true)/\(∀ o,g.cB p.aI o=none)
 | .tok t=>∃ cur,w.heap[p.aI]?=some (.cells cur t.e (0,0))/\cur.size=p.size * t.size/\t.n <= p.size/\p.size <= maxLen/\(∀ o,t.n * t.size <= o->g.cB p.aI o=none)
 | .mp ks vs=>∃ es clock,w.heap[p.aI]?=some (.map es clock)/\lf es clock/\xj g ks vs es/\g.ca p.aI=none
 | .loop L=>∃ fn tmps defers,w.heap[p.aI]?=some (.loop { state:=L.state,pending:=L.fZ,fn,tmps,params:=L.params,assign:=L.assign,body:=L.body,defers })/\tmps.size=L.nt/\∀ t,az g (L.ρ t) (tmps.getD t undef)
 | .iter rest cur=>∃ m es clock seen,w.heap[p.aI]?=some (.mapIter (some m) clock seen clock)/\g.ca m=some (es,clock)/\Cu g es seen rest cur
 | .tF t l=>p.e=t/\p.size=l.length/\∃ cur vs rest,w.heap[p.aI]?=some (.cells cur p.e (0,0))/\cur.size=p.size/\cur.toList=vs++rest/\aA g l vs/\(∀ u ∈ cur.toList,u.oneCell'=true)/\(∀ o,g.cB p.aI o=none)
structure St where
 live:Nat->Option Live
 nb:Option Nat
def St.box (U:St) (b:Nat):Option (List AV):=match U.live b with | some (.box l)=>some l | some (.tF _ l)=>some l | _=>none
def St.tok (U:St) (b:Nat):Option Tok:=match U.live b with | some (.tok t)=>some t | _=>none
def St.mp (U:St) (b:Nat):Option (List AV × List AV):=match U.live b with | some (.mp ks vs)=>some (ks,vs) | _=>none
def St.loop (U:St) (b:Nat):Option fF:=match U.live b with | some (.loop L)=>some L | _=>none
def St.iter (U:St) (b:Nat):Option (List (AV × AV) × Option (AV × AV)):=match U.live b with | some (.iter r c)=>some (r,c) | _=>none
theorem St.ub {U:St} {b:Nat} {l:List AV} (h:U.box b=some l):∃ x,U.live b=some x/\∀ g w p,lV g w p x->lV g w p (.box l):=by
 unfold St.box at h
 split at h
 . rename_i l' hl; cases h; exact ⟨_,hl,fun _ _ _ h=>h⟩
 . rename_i t l' hl; cases h; exact ⟨_,hl,fun _ _ _ h=>h.2.2⟩
 . cases h
theorem St.k9 {U:St} {b:Nat} {l:Tok}:U.tok b=some l ↔ U.live b=some (.tok l):=by unfold St.tok; split <;> simp_all
theorem St.qd {U:St} {b:Nat} {l:List AV × List AV}:U.mp b=some l ↔ U.live b=some (.mp l.1 l.2):=by unfold St.mp; split <;> simp_all [Prod.ext_iff]
theorem St.nU {U:St} {b:Nat} {l:fF}:U.loop b=some l ↔ U.live b=some (.loop l):=by unfold St.loop; split <;> simp_all
theorem St.xK {U:St} {b:Nat} {l:List (AV × AV) × Option (AV × AV)}:U.iter b=some l ↔ U.live b=some (.iter l.1 l.2):=by unfold St.iter; split <;> simp_all [Prod.ext_iff]
def St.set (U:St) (b:Nat) (x:Live):St:={ U with live:=fun y=>if y=b then some x else U.live y }
def St.del (U:St) (b:Nat):St:={ U with live:=fun y=>if y=b then none else U.live y }
def St.new (U:St) (b:Nat) (x:Live):St:={ live:=fun y=>if y=b then some x else U.live y,nb:=U.nb.map (·+1) }
def St.dD (U:St) (b:Nat):Prop:=U.live b=none/\∀ n,U.nb=some n->b=n
structure bo (g:Gh) (U:St) (w:World):Prop where
 below:Below g.base g.w0 w
 le:g.base <= w.heap.size
 cB:∀ aI o u,g.cB aI o=some u->w.cell? ⟨aI,o,none⟩=some u/\u.oneCell'=true
 ca:∀ r es c,g.ca r=some (es,c)->w.heap[r]?=some (.map es c)/\lf es c
 live:∀ b x,U.live b=some x->∃ p,g.place b=some p/\g.base <= p.aI/\lV g w p x
 apart:∀ b b' x x' p p',U.live b=some x->U.live b'=some x'->g.place b=some p->g.place b'=some p'->p.aI=p'.aI->b=b'
 res:∀ r,g.res r=true->g.base <= r/\w.heap[r]?=some (.deferred (some []))
 fin:∃ N,(∀ n,U.nb=some n->N=n)/\∀ b,N <= b->g.place b=none
end Go.Rip
namespace Go.Rip
open Go.RowKit
structure St.Le (U ad:St):Prop where
 live:∀ b x,U.live b=some x->ad.live b=some x
 nb:∀ n,U.nb=some n->ad.nb=some n
theorem St.Le.refl (U:St):St.Le U U:=⟨fun _ _ h=>h,fun _ h=>h⟩
theorem St.Le.trans {a b c:St} (h:St.Le a b) (k:St.Le b c):St.Le a c:=⟨fun _ _ x=>k.live _ _ (h.live _ _ x),fun _ x=>k.nb _ (h.nb _ x)⟩
theorem St.uc (U:St) (b:Nat):St.Le (U.del b) U:=⟨fun x y hx=>by simp only [St.del] at hx; split at hx <;> simp_all,fun _ h=>h⟩
theorem bo.weaken {g:Gh} {U ad:St} {w:World} (h:bo g ad w) (hl:St.Le U ad):bo g U w where
 below:=h.below
 le:=h.le
 cB:=h.cB
 ca:=h.ca
 live:=fun b l hb=>h.live b l (hl.live _ _ hb)
 apart:=fun b b' l l' x x' h1 h2=>h.apart b b' l l' x x' (hl.live _ _ h1) (hl.live _ _ h2)
 res:=h.res
 fin:=let ⟨N,h1,h2⟩:=h.fin; ⟨N,fun n hn=>h1 n (hl.nb n hn),h2⟩
theorem Gm {w w':World} {k:Nat} (h:w'.heap[k]?=w.heap[k]?) (o:Nat):w'.cell? ⟨k,o,none⟩=w.cell? ⟨k,o,none⟩:=by simp [World.cell?,h]
theorem bo.Ph {g:Gh} {U:St} {w:World} (h:bo g U w) {aI o:Nat} {u:Value} (hi:g.cB aI o=some u):aI < w.heap.size :=
 World.block_lt_of_cell? w ⟨aI,o,none⟩ (h.cB _ _ _ hi).1
theorem bo.K8 {g:Gh} {U:St} {w:World} (h:bo g U w) {r:Nat} {x:Array MapEntry × Nat} (hi:g.ca r=some x):r < w.heap.size :=
 (lz.1 (h.ca r x.1 x.2 hi).1).1
theorem bo.Ax {g:Gh} {U:St} {w:World} (h:bo g U w) {q:Nat} (hq:w.heap.size <= q) (o:Nat):g.cB q o=none:=by
 cases e:g.cB q o with
 | none=>rfl
 | some u=>have:=h.Ph e; omega
theorem bo.xD {g:Gh} {U:St} {w:World} (h:bo g U w) {q:Nat} (hq:w.heap.size <= q):g.ca q=none:=by
 cases e:g.ca q with
 | none=>rfl
 | some u=>have:=h.K8 e; omega
theorem xj.fh {g g':Gh} (h:Gh.ua g g') {ks vs:List AV} {es:Array MapEntry} (hm:xj g ks vs es):xj g' ks vs es :=
 let ⟨l,h1,h2,h3,h4⟩:=hm; ⟨l,h1,h2,h3.fh h,h4.fh h⟩
theorem Cu.fh {g g':Gh} (h:Gh.ua g g') {es:Array MapEntry} {seen:Array Nat} {rest:List (AV × AV)} {cur:Option (AV × AV)} (hm:Cu g es seen rest cur):Cu g' es seen rest cur:=by
 obtain ⟨⟨l,h1,h2,h3⟩,h4⟩:=hm
 refine ⟨⟨l,h1,h2.fh h,h3.fh h⟩,?_⟩
 cases cur with
 | none=>trivial
 | some kv=>obtain ⟨e,k1,k2,k3,k4⟩:=h4; exact ⟨e,k1,k2,k3.fh h,k4.fh h⟩
theorem lV.frame {g g':Gh} {w w':World} {p:Place} {x:Live} (h:lV g w p x) (hl:Gh.ua g g') (hb:w'.heap[p.aI]?=w.heap[p.aI]?) (hi:∀ o,g'.cB p.aI o=g.cB p.aI o) (hm:g'.ca p.aI=g.ca p.aI):lV g' w' p x:=by
 cases x with
 | box l=>obtain ⟨cur,vs,rest,h1,h2,h3,h4,h5,h6⟩:=h; exact ⟨cur,vs,rest,hb.trans h1,h2,h3,h4.fh hl,h5,fun o=>(hi o).trans (h6 o)⟩
 | tok t=>obtain ⟨cur,h1,h2,h3,h4,h5⟩:=h; exact ⟨cur,hb.trans h1,h2,h3,h4,fun o ho=>(hi o).trans (h5 o ho)⟩
 | mp ks vs=>obtain ⟨es,clock,h1,h2,h3,h4⟩:=h; exact ⟨es,clock,hb.trans h1,h2,h3.fh hl,hm.trans h4⟩
 | loop L=>obtain ⟨fn,tmps,defers,h1,h2,h3⟩:=h; exact ⟨fn,tmps,defers,hb.trans h1,h2,fun t=>(h3 t).fh hl⟩
 | iter rest cur=>obtain ⟨m,es,clock,seen,h1,h2,h3⟩:=h; exact ⟨m,es,clock,seen,hb.trans h1,hl.ca _ _ h2,h3.fh hl⟩
 | tF t l=>obtain ⟨e1,e2,cur,vs,rest,h1,h2,h3,h4,h5,h6⟩:=h; exact ⟨e1,e2,cur,vs,rest,hb.trans h1,h2,h3,h4.fh hl,h5,fun o=>(hi o).trans (h6 o)⟩
theorem lV.lt {g:Gh} {w:World} {p:Place} {x:Live} (h:lV g w p x):p.aI < w.heap.size:=by
 have:∃ o,w.heap[p.aI]?=some o:=by
  cases x with
  | box l=>obtain ⟨cur,vs,rest,h1,_⟩:=h; exact ⟨_,h1⟩
  | tok t=>obtain ⟨cur,h1,_⟩:=h; exact ⟨_,h1⟩
  | mp ks vs=>obtain ⟨es,clock,h1,_⟩:=h; exact ⟨_,h1⟩
  | loop L=>obtain ⟨fn,tmps,defers,h1,_⟩:=h; exact ⟨_,h1⟩
  | iter rest cur=>obtain ⟨m,es,clock,seen,h1,_⟩:=h; exact ⟨_,h1⟩
  | tF t l=>obtain ⟨_,_,cur,vs,rest,h1,_⟩:=h; exact ⟨_,h1⟩
 exact (lz.1 this.choose_spec).1
theorem lV.Ln {g:Gh} {w:World} {p:Place} {x:Live} (h:lV g w p x) {r:Nat} {ds:Option (List Deferred)} (hr:w.heap[r]?=some (.deferred ds)):p.aI ≠ r:=by
 intro e
 subst e
 cases x with
 | box l=>obtain ⟨cur,vs,rest,h1,_⟩:=h; rw [hr] at h1; cases h1
 | tok t=>obtain ⟨cur,h1,_⟩:=h; rw [hr] at h1; cases h1
 | mp ks vs=>obtain ⟨es,clock,h1,_⟩:=h; rw [hr] at h1; cases h1
 | loop L=>obtain ⟨fn,tmps,defers,h1,_⟩:=h; rw [hr] at h1; cases h1
 | iter rest cur=>obtain ⟨m,es,clock,seen,h1,_⟩:=h; rw [hr] at h1; cases h1
 | tF t l=>obtain ⟨_,_,cur,vs,rest,h1,_⟩:=h; rw [hr] at h1; cases h1
theorem bo.change {g g':Gh} {U:St} {w w':World} (h:bo g U w) (B:Nat) (hB:g.base <= B) (hle:Gh.Le g g') (mZ:g'.place=g.place) (hres:g'.res=g.res)
 (hw:w'.os=w.os/\w'.tape=w.tape/\w'.output=w.output/\w.heap.size <= w'.heap.size) (hk:∀ k,k ≠ B->k < w.heap.size->w'.heap[k]?=w.heap[k]?)
 (oK:∀ q o,q ≠ B->g'.cB q o=g.cB q o) (VX:∀ q,q ≠ B->g'.ca q=g.ca q)
 (hi:∀ o u,g'.cB B o=some u->w'.cell? ⟨B,o,none⟩=some u/\u.oneCell'=true) (hm:∀ es c,g'.ca B=some (es,c)->w'.heap[B]?=some (.map es c)/\lf es c)
 (jt:∀ b x p,U.live b=some x->g.place b=some p->p.aI ≠ B) (adG:g.res B=false):bo g' U w':=by
 have aQ:∀ k o,w.heap[k]?=some o->k ≠ B->w'.heap[k]?=some o:=fun k o hko hn=>by rw [hk k hn (lz.1 hko).1]; exact hko
 exact {
  below:=by
   rw [hle.base,hle.w0]
   exact h.below.trans ⟨hw.1,hw.2.1,hw.2.2.1,hw.2.2.2,fun k hkb=>hk k (by omega) (by have:=h.le; omega)⟩
  le:=by rw [hle.base]; exact Nat.le_trans h.le hw.2.2.2
  cB:=fun q o u hu=>by
   by_cases hq:q=B
   . subst hq; exact hi o u hu
   . rw [oK q o hq] at hu
     rw [Gm (hk q hq (h.Ph hu))]; exact h.cB _ _ _ hu
  ca:=fun r es c hr=>by
   by_cases hq:r=B
   . subst hq; exact hm es c hr
   . rw [VX r hq] at hr
     rw [hk r hq (h.K8 hr)]; exact h.ca _ _ _ hr
  live:=fun b x hb=>by
   obtain ⟨p,h1,h2,h3⟩:=h.live b x hb
   have KY:=jt b x p hb h1
   refine ⟨p,by rw [mZ]; exact h1,by rw [hle.base]; exact h2,h3.frame hle.r (hk _ KY h3.lt) (fun o=>oK _ _ KY) (VX _ KY)⟩
  apart:=fun b b' x x' p p' h1 h2 h3 h4 h5=>by rw [mZ] at h3 h4; exact h.apart b b' x x' p p' h1 h2 h3 h4 h5
  res:=fun r hr=>by
   rw [hres] at hr
   obtain ⟨h1,h2⟩:=h.res r hr
   rw [hle.base]
   exact ⟨h1,aQ _ _ h2 (fun e=>by subst e; rw [adG] at hr; cases hr)⟩
  fin:=by rw [mZ]; exact h.fin }
theorem bo.named {g:Gh} {U:St} {w:World} (h:bo g U w) {b:Nat} {p:Place} {x:Live} (hb:g.place b=some p) (hB:g.base <= p.aI) (hx:lV g w p x)
 (jt:∀ b' x' p',b' ≠ b->U.live b'=some x'->g.place b'=some p'->p'.aI ≠ p.aI):bo g (U.set b x) w where
 below:=h.below
 le:=h.le
 cB:=h.cB
 ca:=h.ca
 live:=fun b' x' ff=>by
  simp only [St.set] at ff
  split at ff
  . rename_i e; subst e; cases ff; exact ⟨p,hb,hB,hx⟩
  . exact h.live b' x' ff
 apart:=fun b1 b2 x1 x2 p1 p2 h1 h2 h3 h4 h5=>by
  simp only [St.set] at h1 h2
  by_cases e1:b1=b <;> by_cases e2:b2=b
  . rw [e1,e2]
  . rw [if_neg e2] at h2
    subst e1; rw [hb] at h3; cases h3
    exact absurd h5.symm (jt _ _ _ e2 h2 h4)
  . rw [if_neg e1] at h1
    subst e2; rw [hb] at h4; cases h4
    exact absurd h5 (jt _ _ _ e1 h1 h3)
  . rw [if_neg e1] at h1; rw [if_neg e2] at h2
    exact h.apart _ _ _ _ _ _ h1 h2 h3 h4 h5
 res:=h.res
 fin:=h.fin
def Gh.o7 (g:Gh) (b:Nat) (p:Place):Gh:={ g with place:=fun y=>if y=b then some p else g.place y }
theorem Gh.ky (g:Gh) (b:Nat) (p:Place):(g.o7 b p).place b=some p:=by simp [Gh.o7]
theorem Gh.oA (g:Gh) {b y:Nat} (p:Place) (h:y ≠ b):(g.o7 b p).place y=g.place y:=by simp [Gh.o7,h]
theorem Gh.Bv {g:Gh} {b:Nat} (p:Place) (h:g.place b=none):Gh.Le g (g.o7 b p) :=
 ⟨rfl,rfl,fun y x hy=>by rw [Gh.oA _ _ (fun e=>by subst e; rw [h] at hy; cases hy)]; exact hy,fun _ _ _ h=>h,fun _ _ h=>h,fun _ h=>h,fun _ _ _=>rfl,fun _ _=>rfl⟩
theorem bo.newName {g:Gh} {U:St} {w:World} (h:bo g U w) (p:Place) (hB:g.base <= p.aI) (jt:∀ b' x' p',U.live b'=some x'->g.place b'=some p'->p'.aI ≠ p.aI) :
 ∃ b,U.dD b/\Gh.Le g (g.o7 b p)/\∀ x,lV (g.o7 b p) w p x->bo (g.o7 b p) (U.new b x) w:=by
 obtain ⟨N,hN1,hN2⟩:=h.fin
 have Bm:g.place N=none:=hN2 N (cX _)
 have hln:U.live N=none:=by
  cases e:U.live N with
  | none=>rfl
  | some x=>obtain ⟨p,h1,_⟩:=h.live N x e; rw [Bm] at h1; cases h1
 refine ⟨N,⟨hln,hN1⟩,Gh.Bv p Bm,fun x hx=>?_⟩
 have hle:=Gh.Bv (g:=g) p Bm
 have cn:∀ b x,U.live b=some x->b ≠ N:=fun b x hb e=>by subst e; rw [hln] at hb; cases hb
 exact {
  below:=h.below
  le:=h.le
  cB:=h.cB
  ca:=h.ca
  live:=fun b' x' ff=>by
   simp only [St.new] at ff
   split at ff
   . rename_i e; subst e; cases ff; exact ⟨p,Gh.ky _ _ _,hB,hx⟩
   . obtain ⟨p',h1,h2,h3⟩:=h.live b' x' ff
     exact ⟨p',hle.place _ _ h1,h2,h3.frame hle.r rfl (fun _=>rfl) rfl⟩
  apart:=fun b1 b2 x1 x2 p1 p2 h1 h2 h3 h4 h5=>by
   simp only [St.new] at h1 h2
   by_cases e1:b1=N <;> by_cases e2:b2=N
   . rw [e1,e2]
   . rw [if_neg e2] at h2; rw [Gh.oA _ _ e2] at h4
     subst e1; rw [Gh.ky] at h3; cases h3
     exact absurd h5.symm (jt _ _ _ h2 h4)
   . rw [if_neg e1] at h1; rw [Gh.oA _ _ e1] at h3
     subst e2; rw [Gh.ky] at h4; cases h4
     exact absurd h5 (jt _ _ _ h1 h3)
   . rw [if_neg e1] at h1; rw [if_neg e2] at h2
     rw [Gh.oA _ _ e1] at h3; rw [Gh.oA _ _ e2] at h4
     exact h.apart _ _ _ _ _ _ h1 h2 h3 h4 h5
  res:=h.res
  fin:=⟨N+1,fun n hn=>by
   simp only [St.new,pS] at hn
   obtain ⟨m,hm,rfl⟩:=hn
   rw [hN1 m hm],fun b hb=>by rw [Gh.oA _ _ (by omega)]; exact hN2 b (by omega)⟩ }
theorem bo.grow {g:Gh} {U:St} {w w':World} (h:bo g U w) (hg:w.grownBy w' none):bo g U w':=by
 have hb:∀ k,k < w.heap.size->w'.heap[k]?=w.heap[k]?:=fun k hk=>hg.block k hk (by simp)
 refine h.change w.heap.size h.le (Gh.Le.refl g) rfl rfl ⟨hg.os,hg.tape,hg.output,hg.size⟩ (fun k _ hk=>hb k hk) (fun _ _ _=>rfl) (fun _ _=>rfl) (fun o u hu=>?_) (fun es c hr=>?_) (fun b x p h1 h2=>?_) ?_
 . rw [h.Ax (cX _)] at hu; cases hu
 . rw [h.xD (cX _)] at hr; cases hr
 . obtain ⟨p',k1,_,k3⟩:=h.live b x h1
   rw [h2] at k1; cases k1
   exact Nat.ne_of_lt k3.lt
 . cases e:g.res w.heap.size with
   | false=>rfl
   | true=>have:=(lz.1 (h.res _ e).2).1; omega
theorem lj (w:World):w.grownBy w.drew none:=⟨rfl,rfl,rfl,cX _,fun _ _ _=>rfl⟩
theorem bo.Er {g:Gh} {U:St} {w:World} (h:bo g U w) {q:Nat} (hq:w.heap.size <= q):g.res q=false:=by
 cases e:g.res q with
 | false=>rfl
 | true=>have:=(lz.1 (h.res _ e).2).1; omega
theorem bo.xX {g:Gh} {U:St} {w:World} (h:bo g U w) {b:Nat} {x:Live} {p:Place} (hb:U.live b=some x) (hp:g.place b=some p):p.aI < w.heap.size:=by
 obtain ⟨p',k1,_,k3⟩:=h.live b x hb
 rw [hp] at k1; cases k1
 exact k3.lt
theorem bo.uG {g:Gh} {U:St} {w:World} (h:bo g U w) {b:Nat} {x:Live} {p:Place} (hb:U.live b=some x) (hp:g.place b=some p):g.res p.aI=false:=by
 cases e:g.res p.aI with
 | false=>rfl
 | true =>
   obtain ⟨p',k1,_,k3⟩:=h.live b x hb
   rw [hp] at k1; cases k1
   exact absurd rfl (k3.Ln (h.res _ e).2)
theorem bo.uy {g:Gh} {U:St} {w:World} (h:bo g U w) (o:Obj) (e:TypeId) (size:Nat) (x:Live)
 (hx:∀ g',Gh.Le g g'->(∀ o,g'.cB w.heap.size o=none)->g'.ca w.heap.size=none->lV g' (w.alloc o) ⟨w.heap.size,e,size⟩ x) :
 ∃ b g',U.dD b/\Gh.Le g g'/\g'.place b=some ⟨w.heap.size,e,size⟩/\bo g' (U.new b x) (w.alloc o):=by
 have hs:=h.grow (w.grownBy_alloc o none)
 obtain ⟨b,h1,h2,h3⟩:=hs.newName ⟨w.heap.size,e,size⟩ h.le (fun b' x' p' k1 k2=>Nat.ne_of_lt (h.xX k1 k2))
 exact ⟨b,_,h1,h2,Gh.ky _ _ _,h3 x (hx _ h2 (fun o=>h.Ax (cX _) o) (h.xD (cX _)))⟩
end Go.Rip
namespace Go.Rip
open Go.RowKit
def St.cg (U:St) (b:Nat) (l:List AV):St:=U.set b (.box l)
def St.ad4 (U:St) (b:Nat) (kv:List AV × List AV):St:=U.set b (.mp kv.1 kv.2)
theorem bo.box {g:Gh} {U:St} {w:World} (h:bo g U w) (b:Nat) (l:List AV) (hb:U.box b=some l):∃ x cur vs rest,g.box b=some x/\g.base <= x.aI/\w.heap[x.aI]?=some (.cells cur x.e (0,0))/\cur.size=x.size/\cur.toList=vs++rest/\aA g l vs /\
 (∀ u ∈ cur.toList,u.oneCell'=true)/\(∀ o,g.cB x.aI o=none):=by
 obtain ⟨y,hy,hyb⟩:=St.ub hb
 obtain ⟨p,h1,h2,hp⟩:=h.live b _ hy
 obtain ⟨cur,vs,rest,h3,h4,h5,h6,h7,h8⟩:=hyb _ _ _ hp
 exact ⟨p,cur,vs,rest,h1,h2,h3,h4,h5,h6,h7,h8⟩
theorem bo.tok {g:Gh} {U:St} {w:World} (h:bo g U w) (τ:Nat) (t:Tok) (ht:U.tok τ=some t):∃ aI c cur,g.tok τ=some (aI,c)/\g.base <= aI/\w.heap[aI]?=some (.cells cur t.e (0,0))/\cur.size=c * t.size/\t.n <= c/\c <= maxLen /\
 (∀ o,t.n * t.size <= o->g.cB aI o=none):=by
 obtain ⟨p,h1,h2,cur,h3,h4,h5,h6,h7⟩:=h.live τ _ (St.k9.1 ht)
 exact ⟨p.aI,p.size,cur,Gh.k9.2 ⟨p,h1,rfl,rfl⟩,h2,h3,h4,h5,h6,h7⟩
theorem bo.mp {g:Gh} {U:St} {w:World} (h:bo g U w) (m:Nat) (kv:List AV × List AV) (hm:U.mp m=some kv):∃ r es clock,g.mp m=some r/\g.base <= r/\w.heap[r]?=some (.map es clock)/\lf es clock/\xj g kv.1 kv.2 es/\g.ca r=none:=by
 obtain ⟨p,h1,h2,es,clock,h3,h4,h5,h6⟩:=h.live m _ (St.qd.1 hm)
 exact ⟨p.aI,es,clock,Gh.qd.2 ⟨p,h1,rfl⟩,h2,h3,h4,h5,h6⟩
theorem bo.rewrite {g:Gh} {U:St} {w w':World} (h:bo g U w) {b:Nat} {x x':Live} {p:Place} (hb:U.live b=some x) (hp:g.place b=some p)
 (hw:w'.os=w.os/\w'.tape=w.tape/\w'.output=w.output/\w.heap.size <= w'.heap.size) (hk:∀ k,k ≠ p.aI->k < w.heap.size->w'.heap[k]?=w.heap[k]?)
 (hi:∀ o,g.cB p.aI o=none) (hm:g.ca p.aI=none) (hx:lV g w' p x'):bo g (U.set b x') w':=by
 obtain ⟨p',k1,k2,k3⟩:=h.live b x hb
 rw [hp] at k1; cases k1
 have jt:∀ b' x' p',b' ≠ b->U.live b'=some x'->g.place b'=some p'->p'.aI ≠ p.aI:=fun b' x' p' cn h1 h2 e=>cn (h.apart _ _ _ _ _ _ h1 hb h2 hp e)
 have hd:∀ b' x' p',(U.del b).live b'=some x'->g.place b'=some p'->p'.aI ≠ p.aI:=fun b' x' p' h1 h2=>by
  simp only [St.del] at h1
  split at h1
  . cases h1
  . rename_i e; exact jt _ _ _ e h1 h2
 have h1:=(h.weaken (St.uc U b)).change p.aI k2 (Gh.Le.refl g) rfl rfl hw hk (fun _ _ _=>rfl) (fun _ _=>rfl) (fun o u hu=>by rw [hi] at hu; cases hu) (fun es c hr=>by rw [hm] at hr; cases hr) hd (h.uG hb hp)
 have h2:=h1.named hp k2 hx (fun b' x' p' _ q1 q2=>hd b' x' p' q1 q2)
 have e:(U.del b).set b x'=U.set b x':=by
  simp only [St.del,St.set,St.mk.injEq,and_true]
  funext y
  split <;> rfl
 rw [<- e]; exact h2
theorem bo.cE {g:Gh} {U:St} {w:World} (h:bo g U w) (e:TypeId) (cur:Array Value) (vs rest:List Value) (l:List AV) (hc:cur.toList=vs++rest) (hl:aA g l vs) (h1:∀ u ∈ cur.toList,u.oneCell'=true) :
 ∃ b g',U.dD b/\Gh.Le g g'/\g'.box b=some ⟨w.heap.size,e,cur.size⟩/\bo g' (U.new b (.box l)) (w.alloc (.cells cur e)) :=
 h.uy (.cells cur e) e cur.size (.box l) fun g' hle hi hm=>⟨cur,vs,rest,heap_alloc_new w _,rfl,hc,hl.mono hle,h1,hi⟩
theorem bo.PJ {g:Gh} {U:St} {w:World} (h:bo g U w) (e:TypeId) (cur:Array Value) (vs rest:List Value) (hc:cur.toList=vs++rest) (h1:∀ u ∈ cur.toList,u.oneCell'=true) :
 ∃ g',Gh.Le g g'/\lU g' w.heap.size 0 vs/\(∀ o,vs.length <= o->g'.cB w.heap.size o=none)/\g'.place=g.place/\bo g' U (w.alloc (.cells cur e)):=by
 let g':Gh:={ g with cB:=fun aI o=>if aI=w.heap.size then vs[o]? else g.cB aI o }
 have qw:∀ o,g'.cB w.heap.size o=vs[o]?:=fun o=>by show (if w.heap.size=w.heap.size then _ else _)=_; rw [if_pos rfl]
 have hold:∀ aI o,aI ≠ w.heap.size->g'.cB aI o=g.cB aI o:=fun aI o hx=>by show (if aI=w.heap.size then _ else _)=_; rw [if_neg hx]
 have hle:Gh.Le g g':=⟨rfl,rfl,fun _ _ h=>h,fun aI o u hu=>by
  rw [hold _ _ (fun e=>by subst e; rw [h.Ax (cX _)] at hu; cases hu)]; exact hu,fun _ _ h=>h,fun _ h=>h,fun q o hq=>hold _ _ (by have:=h.le; omega),fun _ _=>rfl⟩
 have hg:=w.grownBy_alloc (.cells cur e) none
 refine ⟨g',hle,fun i u hu=>by rw [cU,qw]; exact hu,fun o ho=>by rw [qw]; simpa using ho,rfl,?_⟩
 refine h.change w.heap.size h.le hle rfl rfl ⟨hg.os,hg.tape,hg.output,hg.size⟩ (fun k _ hk=>hg.block k hk (by simp)) (fun q o hq=>hold q o hq) (fun _ _=>rfl) (fun o u hu=>?_) (fun es c hr=>?_) (fun b x p k1 k2=>Nat.ne_of_lt (h.xX k1 k2)) (h.Er (cX _))
 . rw [qw] at hu
   have OR:cur[o]?=some u:=by
    rw [<- lA,hc,vR (by
     rcases jL o vs.length with h | h
     . exact h
     . simp [uE h] at hu)]
    exact hu
   exact ⟨by rw [cell_of_row _ _ _ cur e (0,0) (heap_alloc_new w _)]; exact OR,h1 u (gh (by rw [lA]; exact OR))⟩
 . have:g.ca w.heap.size=some (es,c):=hr
   rw [h.xD (cX _)] at this; cases this
theorem bo.oo {g:Gh} {U:St} {w:World} (h:bo g U w) {r:Nat} {c:Array Value} {e:TypeId} {f:Nat × Nat} (hh:w.heap[r]?=some (.cells c e f)):g.ca r=none:=by
 cases e:g.ca r with
 | none=>rfl
 | some x=>have:=(h.ca r x.1 x.2 e).1; rw [hh] at this; cases this
theorem bo.setRow {g:Gh} {U:St} {w:World} (h:bo g U w) {b:Nat} {l l':List AV} {x:Place} (hb:U.box b=some l) (hx:g.box b=some x)
 (cur:Array Value) (vs rest:List Value) (eP:cur.size=x.size) (hc:cur.toList=vs++rest) (hl:aA g l' vs) (h1:∀ u ∈ cur.toList,u.oneCell'=true) :
 bo g (U.cg b l') (w.setRow x.aI cur):=by
 obtain ⟨x',aaC,vs0,ad1,k1,k2,k3,k4,k5,k6,k7,k8⟩:=h.box b l hb
 rw [hx] at k1; cases k1
 obtain ⟨y,hy,_⟩:=St.ub hb
 exact h.rewrite hy hx ⟨rfl,rfl,rfl,by simp⟩ (fun k hk _=>setRow_other _ _ _ _ hk) k8 (h.oo k3) ⟨cur,vs,rest,setRow_heap w x.aI aaC cur x.e (0,0) k3,eP,hc,hl,h1,k8⟩
theorem bo.ad0 {g:Gh} {U:St} {w:World} (h:bo g U w) {b:Nat} {l:List AV} (hb:U.box b=some l):bo g (U.cg b l) w:=by
 obtain ⟨y,hy,hyb⟩:=St.ub hb
 obtain ⟨p,h1,h2,hp⟩:=h.live b _ hy
 obtain ⟨cur,vs,rest,h3,h4,h5,h6,h7,h8⟩:=hyb _ _ _ hp
 exact h.rewrite hy h1 ⟨rfl,rfl,rfl,cX _⟩ (fun _ _ _=>rfl) h8 (h.oo h3) ⟨cur,vs,rest,h3,h4,h5,h6,h7,h8⟩
theorem Ed {cur cur':Array Value} {a:Nat} {news:List Value} (ha:a <= cur.size) (uZ:cur'.toList=cur.toList.take a++news++cur.toList.drop (a+news.length)) (o:Nat) :
 cur'[o]?=if o < a then cur[o]? else if o < a+news.length then news[o - a]? else cur[o]?:=by
 rw [<- lA,uZ,gn]
 have hl:(cur.toList.take a).length=a:=by simp; omega
 by_cases h1:o < a
 . rw [if_pos h1,vR (by omega),List.getElem?_take,if_pos h1,lA]
 . rw [if_neg h1,List.getElem?_append_right (by omega),hl]
   by_cases h2:o < a+news.length
   . rw [if_pos h2,vR (by omega)]
   . rw [if_neg h2,List.getElem?_append_right (by omega),List.getElem?_drop,lA]
     congr 1; omega
theorem bo.abU {g:Gh} {U:St} {w:World} (h:bo g U w) {τ:Nat} {t:Tok} {aI c:Nat} (ht:U.tok τ=some t) (hg:g.tok τ=some (aI,c))
 (cur cur':Array Value) (news:List Value) (m:Nat) (Mw:w.heap[aI]?=some (.cells cur t.e (0,0))) (hlen:news.length=m * t.size) (pP:t.n+m <= c)
 (uZ:cur'.toList=cur.toList.take (t.n * t.size)++news++cur.toList.drop (t.n * t.size+news.length)) (h1:∀ u ∈ news,u.oneCell'=true) :
 ∃ uO g',(U.del τ).dD uO/\Gh.Le g g'/\g'.tok uO=some (aI,c)/\lU g' aI (t.n * t.size) news/\bo g' ((U.del τ).new uO (.tok ⟨t.n+m,t.e,t.size⟩)) (w.setRow aI cur'):=by
 obtain ⟨p,hp,KY,hpc⟩:=Gh.k9.1 hg
 dsimp only at KY hpc
 subst KY hpc
 obtain ⟨p',k1,k2,aaC,k3,k4,k5,k6,k7⟩:=h.live τ _ (St.k9.1 ht)
 rw [hp] at k1; cases k1
 rw [Mw] at k3; cases k3
 have ui:(t.n+m) * t.size <= cur.size:=by rw [k4]; exact Nat.mul_le_mul_right _ pP
 have Fj:(t.n+m) * t.size=t.n * t.size+news.length:=by rw [hlen,Nat.add_mul]
 have eP:cur'.size=cur.size:=by
  have:=congrArg List.length uZ
  simp only [tm,df,List.length_take,List.length_drop] at this
  omega
 let g':Gh:={ g with cB:=fun q o=>if q=p.aI/\t.n * t.size <= o/\o < t.n * t.size+news.length then news[o - t.n * t.size]? else g.cB q o }
 have oK:∀ q o,q ≠ p.aI->g'.cB q o=g.cB q o:=fun q o hq=>by
  show (if _ then _ else _)=_
  rw [if_neg (fun e=>hq e.1)]
 have hle:Gh.Le g g':=⟨rfl,rfl,fun _ _ h=>h,fun q o u hu=>by
  show (if _ then _ else _)=_
  rw [if_neg (fun e=>by obtain ⟨rfl,e2,_⟩:=e; rw [k7 o e2] at hu; cases hu)]; exact hu,fun _ _ h=>h,fun _ h=>h,fun q o hq=>oK _ _ (by omega),fun _ _=>rfl⟩
 have xz:=setRow_heap w p.aI cur cur' t.e (0,0) Mw
 have tg:=fun o=>Ed (cur:=cur) (cur':=cur') (a:=t.n * t.size) (news:=news) (by omega) uZ o
 have jt:∀ b' x' p',(U.del τ).live b'=some x'->g.place b'=some p'->p'.aI ≠ p.aI:=fun b' x' p' h1 h2 e=>by
  simp only [St.del] at h1
  split at h1
  . cases h1
  . rename_i ne; exact ne (h.apart _ _ _ _ _ _ h1 (St.k9.1 ht) h2 hp e)
 have hs:=(h.weaken (St.uc U τ)).change (w':=w.setRow p.aI cur') p.aI k2 hle rfl rfl ⟨rfl,rfl,rfl,by simp⟩ (fun k hk _=>setRow_other _ _ _ _ hk) oK (fun _ _=>rfl) (fun o u hu=>by
  rw [cell_of_row _ _ _ cur' t.e (0,0) xz,tg]
  have pM:(if p.aI=p.aI/\t.n * t.size <= o/\o < t.n * t.size+news.length then news[o - t.n * t.size]? else g.cB p.aI o)=some u:=hu
  by_cases ho:o < t.n * t.size
  . rw [if_pos ho]
    rw [if_neg (by omega)] at pM
    have:=h.cB _ _ _ pM
    rw [cell_of_row _ _ _ cur t.e (0,0) Mw] at this
    exact this
  . rw [if_neg ho]
    by_cases Wc:o < t.n * t.size+news.length
    . rw [if_pos Wc]
      rw [if_pos ⟨rfl,by omega,Wc⟩] at pM
      exact ⟨pM,h1 u (gh pM)⟩
    . rw [if_neg (by omega)] at pM
      rw [k7 o (by omega)] at pM; cases pM) (fun es c hr=>by
  have hr:g.ca p.aI=some (es,c):=hr
  rw [h.oo Mw] at hr; cases hr) jt (h.uG (St.k9.1 ht) hp)
 obtain ⟨uO,f1,f2,f3⟩:=hs.newName p k2 jt
 refine ⟨uO,_,f1,hle.trans f2,Gh.k9.2 ⟨p,Gh.ky _ _ _,rfl,rfl⟩,fun i u hu=>?_,f3 _ ⟨cur',xz,by rw [eP]; exact k4,pP,k6,fun o ho=>?_⟩⟩
 . have hi:i < news.length:=by
    rcases jL i news.length with h | h
    . exact h
    . simp [uE h] at hu
   show (if _ then _ else _)=_
   rw [if_pos ⟨rfl,by omega,by omega⟩,Nat.add_sub_cancel_left]; exact hu
 . have ho:(t.n+m) * t.size <= o:=ho
   show (if _ then _ else _)=_
   rw [if_neg (by omega)]; exact k7 o (by omega)
theorem bo.rename {g:Gh} {U:St} {w:World} (h:bo g U w) {b:Nat} {x:Live} {p:Place} (hb:U.live b=some x) (hp:g.place b=some p) :
 ∃ b' g',(U.del b).dD b'/\Gh.Le g g'/\g'.place b'=some p/\bo g' ((U.del b).new b' x) w:=by
 obtain ⟨p',k1,k2,k3⟩:=h.live b x hb
 rw [hp] at k1; cases k1
 obtain ⟨b',f1,f2,f3⟩:=(h.weaken (St.uc U b)).newName p k2 (fun b' x' p' h1 h2 e=>by
  simp only [St.del] at h1
  split at h1
  . cases h1
  . rename_i ne; exact ne (h.apart _ _ _ _ _ _ h1 hb h2 hp e))
 exact ⟨b',_,f1,f2,Gh.ky _ _ _,f3 x (k3.frame f2.r rfl (fun _=>rfl) rfl)⟩
theorem bo.ou {g:Gh} {U:St} {w:World} (h:bo g U w) (e:TypeId) (size n c:Nat) (cur:Array Value) (vs rest:List Value) (hc:cur.toList=vs++rest) (h1:∀ u ∈ cur.toList,u.oneCell'=true)
 (zy:vs.length=n * size) (ui:cur.size=c * size) (Fi:n <= c) (wB:c <= maxLen) :
 ∃ τ g',U.dD τ/\Gh.Le g g'/\g'.tok τ=some (w.heap.size,c)/\lU g' w.heap.size 0 vs/\bo g' (U.new τ (.tok ⟨n,e,size⟩)) (w.alloc (.cells cur e)):=by
 obtain ⟨g1,HP,oK,jt,mZ,hs⟩:=h.PJ e cur vs rest hc h1
 obtain ⟨τ,f1,f2,f3⟩:=hs.newName ⟨w.heap.size,e,c⟩ (by rw [HP.base]; exact h.le) (fun b' x' p' k1 k2=>by rw [mZ] at k2; exact Nat.ne_of_lt (h.xX k1 k2))
 exact ⟨τ,_,f1,HP.trans f2,Gh.k9.2 ⟨_,Gh.ky _ _ _,rfl,rfl⟩,oK,f3 _ ⟨cur,heap_alloc_new w _,ui,Fi,wB,fun o ho=>jt o (by rw [zy]; exact ho)⟩⟩
theorem bo.freeze {g:Gh} {U:St} {w:World} (h:bo g U w) {b:Nat} {l:List AV} {x:Place} (hb:U.box b=some l) (hx:g.box b=some x) :
 ∃ g' vs,Gh.Le g g'/\g'.place=g.place/\lU g' x.aI 0 vs/\aA g l vs/\bo g' (U.del b) w:=by
 obtain ⟨x',cur,vs,rest,k1,k2,k3,k4,k5,k6,k7,k8⟩:=h.box b l hb
 rw [hx] at k1; cases k1
 let g':Gh:={ g with cB:=fun q o=>if q=x.aI then cur[o]? else g.cB q o }
 have qw:∀ o,g'.cB x.aI o=cur[o]?:=fun o=>by show (if x.aI=x.aI then _ else _)=_; rw [if_pos rfl]
 have hold:∀ q o,q ≠ x.aI->g'.cB q o=g.cB q o:=fun q o hq=>by show (if q=x.aI then _ else _)=_; rw [if_neg hq]
 have hle:Gh.Le g g':=⟨rfl,rfl,fun _ _ h=>h,fun q o u hu=>by
  rw [hold _ _ (fun e=>by subst e; rw [k8] at hu; cases hu)]; exact hu,fun _ _ h=>h,fun _ h=>h,fun q o hq=>hold _ _ (by omega),fun _ _=>rfl⟩
 refine ⟨g',vs,hle,rfl,fun i u hu=>by
  have hi:i < vs.length:=by
   rcases jL i vs.length with h | h
   . exact h
   . simp [uE h] at hu
  rw [cU,qw,<- lA,k5,vR hi]; exact hu,k6,?_⟩
 obtain ⟨y,hy,_⟩:=St.ub hb
 refine (h.weaken (St.uc U b)).change x.aI k2 hle rfl rfl ⟨rfl,rfl,rfl,cX _⟩ (fun _ _ _=>rfl) hold (fun _ _=>rfl) (fun o u hu=>?_) (fun es c hr=>?_) (fun b' x' p' h1 h2 e=>?_) (h.uG hy hx)
 . rw [qw] at hu
   rw [cell_of_row _ _ _ cur x.e (0,0) k3]
   exact ⟨hu,k7 u (gh (by rw [lA]; exact hu))⟩
 . have hr:g.ca x.aI=some (es,c):=hr
   rw [h.oo k3] at hr; cases hr
 . simp only [St.del] at h1
   split at h1
   . cases h1
   . rename_i ne; exact ne (h.apart _ _ _ _ _ _ h1 hy h2 hx e)
theorem bo.Ql {g:Gh} {U:St} {w:World} (h:bo g U w) {m r:Nat} {kv kv':List AV × List AV} {es wi:Array MapEntry} {clock wg:Nat} (hm:U.mp m=some kv) (hg:g.mp m=some r) (hh:w.heap[r]?=some (.map es clock))
 (h1:xj g kv'.1 kv'.2 wi) (h2:lf wi wg) :
 bo g (U.ad4 m kv') { w with heap:=w.heap.setIfInBounds r (Obj.map wi wg) }:=by
 obtain ⟨p,hp,rfl⟩:=Gh.qd.1 hg
 obtain ⟨p',k1,k2,es0,cl0,k3,k4,k5,k6⟩:=h.live m _ (St.qd.1 hm)
 rw [hp] at k1; cases k1
 have aQ:=(lz.1 hh).1
 have cn:∀ k,k ≠ p.aI->(w.heap.setIfInBounds p.aI (Obj.map wi wg))[k]?=w.heap[k]?:=fun k hk=>Array.getElem?_setIfInBounds_ne (Ne.symm hk)
 have qw:(w.heap.setIfInBounds p.aI (Obj.map wi wg))[p.aI]?=some (Obj.map wi wg):=by simp [aQ]
 exact h.rewrite (St.qd.1 hm) hp ⟨rfl,rfl,rfl,by simp⟩ (fun k hk _=>cn k hk) (fun o=>by
  cases e:g.cB p.aI o with
  | none=>rfl
  | some u=>have:=(h.cB _ _ _ e).1; simp [World.cell?,hh] at this) k6 ⟨wi,wg,qw,h2,h1,k6⟩
theorem bo.shut {g:Gh} {U:St} {w:World} (h:bo g U w) {r:Nat} (hr:g.res r=true):bo { g with res:=fun x=>if x=r then false else g.res x } U { w with heap:=w.heap.setIfInBounds r (Obj.deferred none) }:=by
 obtain ⟨k2,hh⟩:=h.res r hr
 have cn:∀ k,k ≠ r->(w.heap.setIfInBounds r (Obj.deferred none))[k]?=w.heap[k]?:=fun k hk=>Array.getElem?_setIfInBounds_ne (Ne.symm hk)
 have hl:Gh.ua g { g with res:=fun x=>if x=r then false else g.res x }:=⟨fun _ _ h=>h,fun _ _ _ h=>h,fun _ _ h=>h⟩
 exact {
  below:=h.below.trans ⟨rfl,rfl,rfl,by simp,fun k hk=>cn k (by have:=h.le; omega)⟩
  le:=by simpa using h.le
  cB:=fun aI o u hi=>by
   have lr:=h.cB _ _ _ hi
   have:World.cell? { w with heap:=w.heap.setIfInBounds r (Obj.deferred none) } ⟨aI,o,none⟩=w.cell? ⟨aI,o,none⟩:=by
    simp only [World.cell?]
    rw [cn aI (fun e=>by subst e; simp [World.cell?,hh] at lr)]
   rw [this]; exact lr
  ca:=fun r' es c hr=>by
   obtain ⟨h1,h2⟩:=h.ca r' es c hr
   refine ⟨?_,h2⟩
   show (w.heap.setIfInBounds r (Obj.deferred none))[r']?=_
   rw [cn r' (fun e=>by subst e; rw [hh] at h1; cases h1)]; exact h1
  live:=fun b x hb=>by
   obtain ⟨p,h1,h2,h3⟩:=h.live b x hb
   exact ⟨p,h1,h2,h3.frame hl (cn _ (h3.Ln hh)) (fun _=>rfl) rfl⟩
  apart:=h.apart
  res:=fun r' yK=>by
   have yK:(if r'=r then false else g.res r')=true:=yK
   split at yK
   . cases yK
   . rename_i e
     obtain ⟨q1,q2⟩:=h.res r' yK
     exact ⟨q1,by show (w.heap.setIfInBounds r (Obj.deferred none))[r']?=_; rw [cn r' e]; exact q2⟩
  fin:=h.fin }
theorem bo.Yj {g:Gh} {U:St} {w:World} (h:bo g U w):Gh.Le g { g with res:=fun x=>if x=w.heap.size then true else g.res x }/\bo { g with res:=fun x=>if x=w.heap.size then true else g.res x } U (w.alloc (.deferred (some []))):=by
 have hl:Gh.ua g { g with res:=fun x=>if x=w.heap.size then true else g.res x }:=⟨fun _ _ h=>h,fun _ _ _ h=>h,fun _ _ h=>h⟩
 refine ⟨⟨rfl,rfl,fun _ _ h=>h,fun _ _ _ h=>h,fun _ _ h=>h,fun b hb=>by show (if _ then _ else _)=_; split <;> simp_all,fun _ _ _=>rfl,fun _ _=>rfl⟩,?_⟩
 have hs:=h.grow (w.grownBy_alloc (.deferred (some [])) none)
 exact {
  below:=hs.below
  le:=hs.le
  cB:=hs.cB
  ca:=hs.ca
  live:=fun b x hb=>by
   obtain ⟨p,h1,h2,h3⟩:=hs.live b x hb
   exact ⟨p,h1,h2,h3.frame hl rfl (fun _=>rfl) rfl⟩
  apart:=hs.apart
  res:=fun r hr=>by
   have hr:(if r=w.heap.size then true else g.res r)=true:=hr
   split at hr
   . rename_i e; subst e; exact ⟨h.le,heap_alloc_new w _⟩
   . exact hs.res r hr
  fin:=hs.fin }
end Go.Rip
namespace Go.Rip
open Go.RowKit
def mD:Value->Option AV
 | .bool b=>some (.bool b)
 | .int k n=>some (.int k n)
 | .string s=>some (.str s.data.toList)
 | .pointer none=>some .aY
 | .slice none 0 0=>some .ah
 | .map none=>some .jE
 | .nilFunc=>some .dV
 | .nilIface=>some .dr
 | _=>none
def S6:Option (List AV)->AV
 | some l=>.agg l
 | none=>.any
def EW:Value->AV
 | .agg cs=>S6 (cs.toList.mapM mD)
 | .func fn f c=>if f.isEmpty && c.isEmpty then .func fn [] [] else .any
 | .tuple vs=>if vs.isEmpty then .aH [] else .any
 | v=>(mD v).getD .any
def DQ:TypeDesc->Bool
 | .struct _ | .array _ _=>true
 | _=>false
def oP (P:Program) (t:TypeId):Option (Bool × Nat) :=
 match P.info? t,P.underlying t with
 | some i,some d=>some (DQ d,i.size)
 | _,_=>none
def qp (P:Program) (t:TypeId):Option (List AV):=((P.info? t).bind (·.zero)).bind fun z=>z.cells.toList.mapM mD
def fH (P:Program) (t:TypeId):Option (TypeId × Nat) :=
 match P.underlying t with
 | some (.slice e)=>match P.info? e with
   | some i=>match i.zero with
     | some z=>if z.cells.size=i.size/\0 < i.size/\i.bytes <= 32768/\z.cells.all (·.oneCell') then some (e,i.size) else none
     | none=>none
   | none=>none
 | _=>none
def zi (P:Program) (s:TypeId) (f:Nat):Option Nat :=
 match P.underlying s with
 | some (.struct fields)=>match fields[f]? with
   | some x=>if P.cellsOf x.type ≠ 0 then some x.offset else none
   | none=>none
 | _=>none
def AO (P:Program) (t:TypeId):Option (List (Nat × Nat)) :=
 match P.underlying t with
 | some (.struct fields)=>if fields.all (fun f=>(P.info? f.type).isSome) then some (fields.toList.map fun f=>(f.offset,P.cellsOf f.type)) else none
 | _=>none
def eX (P:Program) (f:FuncId):Bool :=
 match P.funcs[f]? with
 | some fn=>fn.body.isSome && !(fn.name == "runtime.NumGoroutine")
 | none=>false
structure cQ where
 P:Program
 zl:Nat->AV
 fixed:Nat->Option (Array Value):=fun _=>none
def iL (C:cQ) (g:Gh):Prop:=(∀ i,az g (C.zl i) (.pointer (some ⟨i,0,none⟩)))/\∀ i cs,C.fixed i=some cs->i < g.base/\∃ t fr,g.w0.heap[i]?=some (.cells cs t fr)
theorem iL.mono {C:cQ} {g g':Gh} (h:iL C g) (hl:Gh.Le g g'):iL C g':=⟨fun i=>(h.1 i).mono hl,fun i cs hi=>by rw [hl.base,hl.w0]; exact h.2 i cs hi⟩
structure Env where
 get:Nat->AV
def Env.put (ρ:Env) (d:Nat) (v:AV):Env:=⟨fun t=>if t=d then v else ρ.get t⟩
def Env.eM (ρ:Env):Option Nat->AV->Env
 | some d,v=>ρ.put d v
 | none,_=>ρ
def Env.ev (C:cQ) (ρ:Env):Operand->AV
 | .tmp t=>ρ.get t
 | .const v=>EW v
 | .global g=>C.zl g
 | .func f=>.func (.func f) [] []
def hY (g:Gh) (ρ:Env) (tmps:Array Value):Prop:=∀ t,az g (ρ.get t) (tmps.getD t undef)
theorem hY.mono {g g':Gh} (h:Gh.Le g g') {ρ:Env} {tmps:Array Value} (hr:hY g ρ tmps):hY g' ρ tmps:=fun t=>(hr t).mono h
theorem hY.put {g:Gh} {ρ:Env} {tmps:Array Value} (hr:hY g ρ tmps) {d:Nat} {x:AV} {v:Value} (hd:d < tmps.size) (hx:az g x v):hY g (ρ.put d x) (tmps.setIfInBounds d v):=fun t=>by
 simp only [Env.put]
 by_cases ht:t=d
 . subst ht
   rw [if_pos rfl]
   simpa [Array.getD,hd] using hx
 . rw [if_neg ht]
   have:=hr t
   simp only [Array.getD_eq_getD_getElem?] at this ⊢
   rw [Array.getElem?_setIfInBounds_ne (Ne.symm ht)]
   exact this
theorem zL {g:Gh} {v:Value} {x:AV} (h:mD v=some x):az g x v/\v.oneCell'=true:=by
 unfold mD at h
 split at h <;> first
  | (cases h; simp [az,Value.oneCell']; done)
  | cases h
theorem eZ {g:Gh}:∀ {vs:List Value} {l:List AV},vs.mapM mD=some l->aA g l vs/\∀ u ∈ vs,u.oneCell'=true
 | [],l,h=>by
   simp at h; subst h; simp [aA]
 | v::vs,l,h=>by
   simp only [List.mapM_cons,bind,Option.bind_eq_some_iff,pure,ja] at h
   obtain ⟨x,hx,l',u3,rfl⟩:=h
   obtain ⟨h1,h2⟩:=zL (g:=g) hx
   obtain ⟨h3,h4⟩:=eZ (g:=g) u3
   refine ⟨by simp only [aA]; exact ⟨v,vs,rfl,h1,h3⟩,fun u hu=>?_⟩
   simp only [cD] at hu
   rcases hu with rfl | hu
   . exact h2
   . exact h4 u hu
theorem Nu {g:Gh} (v:Value):az g ((mD v).getD .any) v:=by
 cases h:mD v with
 | none=>simp only [Option.getD_none,az]
 | some x=>exact (zL h).1
theorem DW {g:Gh} (v:Value):az g (EW v) v:=by
 cases v with
 | agg cs =>
   simp only [EW]
   cases h:cs.toList.mapM mD with
   | none=>simp only [S6,az]
   | some l=>simp only [S6,az]; exact ⟨cs.toList,by simp,(eZ (g:=g) h).2,(eZ h).1⟩
 | func fn f c =>
   simp only [EW]
   split
   . rename_i h
     simp only [bX,Array.isEmpty_iff] at h
     obtain ⟨rfl,rfl⟩:=h
     simp only [az]; exact ⟨[],[],rfl,by simp [aA],by simp [aA]⟩
   . simp only [az]
 | tuple vs =>
   simp only [EW]
   split
   . rename_i h
     simp only [Array.isEmpty_iff] at h
     subst h
     simp only [az]; exact ⟨[],rfl,by simp [aA]⟩
   . simp only [az]
 | _=>simp only [EW]; exact Nu _
theorem ue {C:cQ} {g:Gh} (hG:iL C g) {ρ:Env} {a:Act} (hr:hY g ρ a.tmps) (x:Operand):az g (ρ.ev C x) (a.eval x):=by
 cases x with
 | tmp t=>exact hr t
 | const v=>exact DW v
 | global i=>exact hG.1 i
 | func f=>simp only [Env.ev,Act.eval,az]; exact ⟨[],[],rfl,by simp [aA],by simp [aA]⟩
inductive NV where
 | box
 | tok (n:Nat) (l:List AV)
 | ms (n jr:Nat) (e:TypeId)
 | mp
 | it
def NV.at (b:Nat):NV->AV
 | .box=>.box b 0
 | .tok n l=>.vec n (.own b) l
 | .ms n jr e=>.ms b 0 n jr e
 | .mp=>.mp b
 | .it=>.it b
inductive aD where
 | val (v:AV)
 | iH (v:AV) (b:Nat) (x:Live)
 | new (k:NV) (del:Option Nat) (x:Live)
 | lW (b:Nat) (l:List (AV × Live))
 | enter (f:FuncId) (args:List AV)
 | yield (l:Nat) (args:List AV)
 | panic (v:AV)
 | cond (p:Prop) [d:Decidable p] (r:aD)
 | bad
abbrev aD.cE (l:List AV):aD:=.new .box none (.box l)
abbrev aD.ou (n:Nat) (l:List AV) (del:Option Nat) (t:Tok):aD:=.new (.tok n l) del (.tok t)
abbrev aD.pD (n jr:Nat) (e:TypeId) (del:Option Nat) (l:List AV):aD:=.new (.ms n jr e) del (.box l)
abbrev aD.vg:aD:=.new .mp none (.mp [] [])
def St.tf (U:St):Option Nat->St
 | some b=>U.del b
 | none=>U
def aD.Fits (C:cQ) (g:Gh) (U:St):aD->Result Next->Prop
 | .val v,res=>∃ u w' g',(res=.ok (.value u) w'\/(res=.ok .skip w'/\u=undef))/\Gh.Le g g'/\bo g' U w'/\az g' v u
 | .iH v b x,res=>∃ u w' g',(res=.ok (.value u) w'\/(res=.ok .skip w'/\u=undef))/\Gh.Le g g'/\bo g' (U.set b x) w'/\az g' v u
 | .new k del x,res=>∃ u w' g' b,res=.ok (.value u) w'/\(U.tf del).dD b/\Gh.Le g g'/\bo g' ((U.tf del).new b x) w'/\az g' (k.at b) u
 | .lW b l,res=>∃ u w' g' v x,res=.ok (.value u) w'/\(v,x) ∈ l/\Gh.Le g g'/\bo g' (U.set b x) w'/\az g' v u
 | .enter f args,res=>∃ vs w',res=.ok (.enter f (List.toArray vs)) w'/\bo g U w'/\aA g args vs
 | .yield o args,res=>∃ vs x w w',g.place o=some x/\res=(Instr.yield x.aI (List.toArray vs)).run C.P w/\w'=w/\bo g U w/\aA g args vs
 | .panic v,res=>∃ u w',res=.halt (.panic u) w'/\bo g U w'/\az g v u
 | @aD.cond p _ r,res=>p->r.Fits C g U res
 | .bad,_=>True
theorem a8 {C:cQ} {g:Gh} {U:St} {w:World} {v:AV} {u:Value} (h:bo g U w) (hr:az g v u):aD.Fits C g U (.val v) (.ok (.value u) w) :=
 ⟨u,w,g,.inl rfl,Gh.Le.refl g,h,hr⟩
def wa (n:Int):Prop:=-9223372036854775808 <= n/\n <= 9223372036854775807
instance (n:Int):Decidable (wa n):=inferInstanceAs (Decidable (_/\_))
theorem yz {n:Int} (h:wa n):IntKind.i64.wrap n=n:=by
 obtain ⟨h1,h2⟩:=h
 have e:IntKind.i64.wrap n=if n % 18446744073709551616 >= 9223372036854775808 then n % 18446744073709551616 - 18446744073709551616 else n % 18446744073709551616:=by
  simp [IntKind.wrap,IntKind.bits,IntKind.signed]
 rw [e]
 split <;> omega
def wO (P:Program) (t:TypeId):Bool:=match P.underlying t with | some .bool=>true | _=>false
def lu (P:Program) (t:TypeId):Bool:=match P.underlying t with | some (.interface _)=>true | _=>false
def nh (P:Program) (t:TypeId):Bool:=match P.underlying t with | some (.pointer _)=>true | _=>false
def qy (P:Program) (t:TypeId):Bool:=match P.underlying t with | some (.slice _)=>true | _=>false
def jf (k:IntKind) (n:Int):aD :=
 match k with
 | .i64=>.cond (wa n) (.val (.int .i64 n))
 | k=>.val (.int k (k.wrap n))
inductive FK where
 | i
 | s
 | b
def pL:List FK->List AV->List AV->Option Bool
 | [],[],[]=>some true
 | .i::ks,.int k a::xs,.int k' b::ys=>if k=k' then (pL ks xs ys).map fun r=>(a == b) && r else none
 | .s::ks,.str a::xs,.str b::ys=>(pL ks xs ys).map fun r=>(a == b) && r
 | .b::ks,.bool a::xs,.bool b::ys=>(pL ks xs ys).map fun r=>(a == b) && r
 | _,_,_=>none
def OA (P:Program) (f:Field) (i:Nat):Option FK :=
 if f.offset=i/\f.name ≠ "_" then
  match P.underlying f.type with
  | some .bool=>some .b
  | some (.int _)=>some .i
  | some .string=>some .s
  | _=>none
 else none
def wj (P:Program):List Field->Nat->Option (List FK)
 | [],_=>some []
 | f::fs,i=>match OA P f i,wj P fs (i+1) with
   | some k,some ks=>some (k::ks)
   | _,_=>none
def Mm (P:Program) (t:TypeId):Option (List FK) :=
 match P.underlying t with
 | some (.struct fields)=>if P.stoodInHeld t=false/\P.eqGuardType P.depth t=false then wj P fields.toList 0 else none
 | _=>none
def KE (P:Program) (t:TypeId) (a b:List AV):Option Bool :=
 match Mm P t with
 | some ks=>pL ks a b
 | none=>none
def vY (f:Bool->AV):Option Bool->aD
 | some r=>.val (f r)
 | none=>.bad
def LW (P:Program) (op:BinOp) (t:TypeId) (x y:AV):aD :=
 match op,x,y with
 | .add,.int k a,.int k' b=>if k=k' then jf k (a+b) else .bad
 | .sub,.int k a,.int k' b=>if k=k' then jf k (a - b) else .bad
 | .mul,.int k a,.int k' b=>if k=k' then jf k (a * b) else .bad
 | .quo,.int k a,.int k' b=>if k=k' then .cond (b ≠ 0) (jf k (a.tdiv b)) else .bad
 | .rem,.int k a,.int k' b=>if k=k' then .cond (b ≠ 0) (.val (.int k (a.tmod b))) else .bad
 | .and,.int k a,.int k' b=>if k=k' then .val (.int k (k.wrap (BitVec.ofInt k.bits a &&& BitVec.ofInt k.bits b).toNat)) else .bad
 | .or,.int k a,.int k' b=>if k=k' then .val (.int k (k.wrap (BitVec.ofInt k.bits a ||| BitVec.ofInt k.bits b).toNat)) else .bad
 | .eql,.int k a,.int k' b=>if k=k' then .val (.bool (a == b)) else .bad
 | .neq,.int k a,.int k' b=>if k=k' then .val (.bool (a != b)) else .bad
 | .lss,.int k a,.int k' b=>if k=k' then .val (.bool (decide (a < b))) else .bad
 | .leq,.int k a,.int k' b=>if k=k' then .val (.bool (decide (a <= b))) else .bad
 | .gtr,.int k a,.int k' b=>if k=k' then .val (.bool (decide (a > b))) else .bad
 | .geq,.int k a,.int k' b=>if k=k' then .val (.bool (decide (a >= b))) else .bad
 | .eql,.str a,.str b=>.val (.bool (a == b))
 | .neq,.str a,.str b=>.val (.bool (a != b))
 | .add,.str a,.str b=>.cond (a.length+b.length <= 4294967296) (.val (.str (a++b)))
 | .eql,.bool a,.bool b=>if wO P t=true then .val (.bool (a == b)) else .bad
 | .neq,.bool a,.bool b=>if wO P t=true then .val (.bool (a != b)) else .bad
 | .eql,.agg a,.agg b=>vY .bool (KE P t a b)
 | .neq,.agg a,.agg b=>vY (fun r=>.bool (!r)) (KE P t a b)
 | .eql,.iface _ _,.dr=>if lu P t=true then .val (.bool false) else .bad
 | .neq,.iface _ _,.dr=>if lu P t=true then .val (.bool true) else .bad
 | .eql,.aY,.aY=>if nh P t=true then .val (.bool true) else .bad
 | .eql,.box _ _,.aY=>if nh P t=true then .val (.bool false) else .bad
 | .neq,.aY,.aY=>if nh P t=true then .val (.bool false) else .bad
 | .neq,.box _ _,.aY=>if nh P t=true then .val (.bool true) else .bad
 | .eql,.cN _,.aY=>if nh P t=true then .val (.bool false) else .bad
 | .neq,.cN _,.aY=>if nh P t=true then .val (.bool true) else .bad
 | .eql,.ah,.ah=>if qy P t=true then .val (.bool true) else .bad
 | .eql,.vec _ _ _,.ah=>if qy P t=true then .val (.bool false) else .bad
 | .eql,.ms _ _ _ _ _,.ah=>if qy P t=true then .val (.bool false) else .bad
 | _,_,_=>.bad
def isLit:Operand->Bool
 | .const _=>true
 | _=>false
def Hb (P:Program) (op:BinOp) (t:TypeId) (lit:Bool) (x y:AV):aD :=
 match op,x,y with
 | .eql,.dr,.dr=>if lu P t=true/\lit=true then .val (.bool true) else .bad
 | .neq,.dr,.dr=>if lu P t=true/\lit=true then .val (.bool false) else .bad
 | op,x,y=>LW P op t x y
end Go.Rip
namespace Go.Rip
open Go.RowKit
def AV.scalar:AV->Bool
 | .agg _ | .aH _ | .any=>false
 | _=>true
def au:AV->List AV
 | .agg l=>l
 | v=>[v]
theorem Et {g:Gh} {x:AV} {v:Value} (h:az g x v) (hs:x.scalar=true):v.oneCell'=true:=by
 cases x <;> simp only [AV.scalar,bU] at hs <;> simp only [az] at h
 all_goals first
  | (subst h; rfl)
  | (obtain ⟨_,_,rfl⟩:=h; rfl)
  | (obtain ⟨_,_,_,rfl,_⟩:=h; rfl)
  | (obtain ⟨_,_,_,_,rfl,_⟩:=h; rfl)
  | (obtain ⟨_,_,_,rfl,_⟩:=h; rfl)
  | (obtain ⟨_,_,rfl,_⟩:=h; rfl)
  | (obtain ⟨_,rfl,_⟩:=h; rfl)
  | (obtain ⟨_,_,_,_,rfl,_⟩:=h; rfl)
def AV.dc:AV->Bool
 | .aH _ | .any=>false
 | _=>true
theorem za {g:Gh} {x:AV} {v:Value} (h:az g x v) (hs:x.dc=true):aA g (au x) v.cells.toList/\∀ u ∈ v.cells.toList,u.oneCell'=true:=by
 by_cases ha:∃ l,x=.agg l
 . obtain ⟨l,rfl⟩:=ha
   simp only [az] at h
   obtain ⟨vs,rfl,h1,h2⟩:=h
   exact ⟨by simpa [au,Value.cells] using h2,by simpa [Value.cells] using h1⟩
 . have Wl:x.scalar=true:=by cases x <;> simp_all [AV.dc,AV.scalar]
   have h1:=Et h Wl
   have hc:au x=[x]:=by cases x <;> simp_all [au]
   have hv:v.cells=#[v]:=by cases v <;> simp_all [Value.cells,Value.oneCell']
   rw [hc,hv]
   exact ⟨by simp only [aA]; exact ⟨v,[],rfl,h,rfl⟩,by simpa using h1⟩
def mW (U:St):AV->Option (List AV)
 | .box b off=>(U.box b).map (·.drop off)
 | .cN l=>some l
 | _=>none
theorem sG {g:Gh} {U:St} {w:World} (h:bo g U w) {p:AV} {v:Value} {l:List AV} (hp:az g p v) (hl:mW U p=some l) :
 ∃ a vs,v=.pointer (some a)/\a.spot=none/\aA g l vs/\∀ j u,vs[j]?=some u->w.cell? (a.add j)=some u/\u.oneCell'=true:=by
 have ln:∀ aI off j,(⟨aI,off,none⟩:Addr).add j=⟨aI,off+j,none⟩:=fun aI off j=>by unfold Addr.add; split <;> simp_all
 cases p <;> simp only [mW,reduceCtorEq] at hl
 . rename_i b off
   cases hb:U.box b with
   | none=>simp [hb] at hl
   | some l0 =>
     simp [hb] at hl
     subst hl
     simp only [az] at hp
     obtain ⟨x,hx,rfl⟩:=hp
     obtain ⟨x',cur,vs,rest,k1,k2,k3,k4,k5,k6,k7,k8⟩:=h.box b l0 hb
     rw [hx] at k1; cases k1
     refine ⟨⟨x.aI,off,none⟩,vs.drop off,rfl,rfl,k6.drop off,fun j u hu=>?_⟩
     rw [ln,cell_of_row _ _ _ cur x.e (0,0) k3]
     rw [List.getElem?_drop] at hu
     have aQ:off+j < vs.length:=by
      rcases jL (off+j) vs.length with h | h
      . exact h
      . simp [uE h] at hu
     have:cur[off+j]?=some u:=by rw [<- lA,k5,vR aQ]; exact hu
     exact ⟨this,k7 u (gh (by rw [lA]; exact this))⟩
 . cases hl
   simp only [az] at hp
   obtain ⟨aI,off,vs,rfl,hi,hr⟩:=hp
   exact ⟨⟨aI,off,none⟩,vs,rfl,rfl,hr,fun j u hu=>by rw [ln]; exact h.cB _ _ _ (hi j u hu)⟩
def iX:List AV->aD
 | x::_=>.val x
 | []=>.bad
def u7 (P:Program) (t:TypeId) (p:AV) (U:St):aD :=
 match oP P t,mW U p with
 | some (true,sz),some l=>.cond (sz <= l.length) (.val (.agg (l.take sz)))
 | some (false,_),some l=>iX l
 | _,_=>.bad
theorem px {P:Program} {t:TypeId} {b:Bool} {sz:Nat} (h:oP P t=some (b,sz)) :
 ∃ i d,P.info? t=some i/\P.underlying t=some d/\DQ d=b/\i.size=sz:=by
 unfold oP at h
 split at h
 . rename_i i d hi hd
   simp only [ja,jA] at h
   exact ⟨i,d,hi,hd,h.1,h.2⟩
 . cases h
theorem mi {P:Program} {t:TypeId} {d:TypeDesc} (h:P.underlying t=some d) (w:World):(isAgg t).run P w=.ok (DQ d) w:=by
 simp only [isAgg,cr,run_underlying h,cJ]
 cases d <;> rfl
theorem fe {P:Program} {t:TypeId} {i:TypeInfo} (h:P.info? t=some i) (w:World):(sizeOf t).run P w=.ok i.size w:=by
 simp [sizeOf,typeInfo,h]
section
variable {C:cQ} {g:Gh} {U:St} {w:World}
theorem MZ (h:bo g U w) {t:TypeId} {p:AV} {v:Value} (hp:az g p v):aD.Fits C g U (u7 C.P t p U) ((do let x <- Instr.loadAt t v; pure (Next.value x):Sem Next).run C.P w):=by
 unfold u7
 split
 . rename_i b sz l hv hl
   obtain ⟨i,d,hi,hd,hb,eP⟩:=px hv
   obtain ⟨a,vs,rfl,ha,hr,hc⟩:=sG h hp hl
   intro hle
   have hlen:=hr.length
   have iu:(loadCells a (vs.take sz).length).run C.P w=.ok (vs.take sz).toArray w :=
    run_loadCells_list (P:=C.P) w a (vs.take sz) fun j u hu=>by
     rw [List.getElem?_take] at hu
     split at hu
     . exact (hc j u hu).1
     . cases hu
   have tz:(vs.take sz).length=sz:=by simp; omega
   rw [tz] at iu
   simp only [Instr.loadAt,Instr.sureAddr,loadVar,cr,cM,cJ,mi hd,hb,if_true,fe hi,eP,iu,fD]
   have OJ:∀ u ∈ vs.take sz,u.oneCell'=true:=fun u hu=>by
    obtain ⟨j,hj⟩:=List.getElem?_of_mem hu
    rw [List.getElem?_take] at hj
    split at hj
    . exact (hc j u hj).2
    . cases hj
   exact a8 h (by simp only [az]; exact ⟨_,rfl,OJ,hr.take sz⟩)
 . rename_i b sz l hv hl
   obtain ⟨i,d,hi,hd,hb,eP⟩:=px hv
   obtain ⟨a,vs,rfl,ha,hr,hc⟩:=sG h hp hl
   cases l with
   | nil=>trivial
   | cons x xs =>
     simp only [aA] at hr
     obtain ⟨u,us,rfl,h1,h2⟩:=hr
     have:=(hc 0 u rfl).1
     have h0:a.add 0=a:=by simp [Addr.add]
     rw [h0] at this
     simp only [Instr.loadAt,Instr.sureAddr,loadVar,cr,cM,cJ,mi hd,hb,bU,if_false,run_load,this,fD]
     exact a8 h h1
 . trivial
def ay (l:List AV) (off:Nat) (cs:List AV):List AV:=l.take off++cs++l.drop (off+cs.length)
def Jn (P:Program) (t:TypeId) (p v:AV) (U:St):aD :=
 match oP P t,p with
 | some (_,sz),.box b off=>match U.box b with
   | some l=>.cond (v.dc=true/\(au v).length=sz/\off+sz <= l.length) (.iH (.aH []) b (.box (ay l off (au v))))
   | none=>.bad
 | _,_=>.bad
theorem wW (h:bo g U w) {b off:Nat} {l:List AV} {x:Place} (hb:U.box b=some l) (hx:g.box b=some x) {cs:List AV} {us:List Value} (hr:aA g cs us) (h1:∀ u ∈ us,u.oneCell'=true)
 (pP:off+cs.length <= l.length):∃ w',(storeCells ⟨x.aI,off,none⟩ us).run C.P w=.ok () w'/\bo g (U.cg b (ay l off cs)) w':=by
 obtain ⟨x',cur,vs,rest,k1,k2,k3,k4,k5,k6,k7,k8⟩:=h.box b l hb
 rw [hx] at k1; cases k1
 have Fg:=hr.length
 have tz:=k6.length
 have eP:cur.size=vs.length+rest.length:=by rw [<- tm,k5,df]
 have iu:=run_storeCells_at C.P x.aI off x.e us 0 cur w k3 (by omega) h1
 simp only [Nat.add_zero] at iu
 refine ⟨_,iu,?_⟩
 have e:cur.toList.take off++us++cur.toList.drop (off+us.length)=(vs.take off++us++vs.drop (off+us.length))++rest:=by
  rw [k5,List.take_append_of_le_length (by omega),List.drop_append_of_le_length (by omega)]
  simp
 refine h.setRow hb hx _ (vs.take off++us++vs.drop (off+us.length)) rest ?_ (by simpa using e) ?_ ?_
 . rw [<- tm]
   have:=congrArg List.length e
   simp only [df,List.length_take,List.length_drop] at this
   simp only [df,List.length_take,List.length_drop,tm] at this ⊢
   omega
 . unfold ay
   rw [Fg]
   exact ((k6.take off).append hr).append (k6.drop _)
 . intro u hu
   simp only [fS] at hu
   rcases hu with (hu | hu) | hu
   . exact k7 u (List.mem_of_mem_take hu)
   . exact h1 u hu
   . exact k7 u (List.mem_of_mem_drop hu)
theorem Kl (h:bo g U w) {t:TypeId} {p x:AV} {v u:Value} (hp:az g p v) (hx:az g x u):aD.Fits C g U (Jn C.P t p x U) ((do Instr.storeAt t v u; pure Next.skip:Sem Next).run C.P w):=by
 unfold Jn
 split
 . rename_i bb sz b off hv
   split
   . rename_i l hb
     rintro ⟨h1,h2,h3⟩
     obtain ⟨i,d,hi,hd,_,eP⟩:=px hv
     obtain ⟨wA,Be⟩:=za hx h1
     simp only [az] at hp
     obtain ⟨y,hy,rfl⟩:=hp
     obtain ⟨w',iu,hs⟩:=wW (C:=C) h hb hy wA Be (by rw [h2]; exact h3)
     have hlen:u.cells.size=sz:=by rw [<- tm,wA.length]; exact h2
     simp only [Instr.storeAt,Instr.sureAddr,storeVar,cr,cM,cJ,fe hi,eP,hlen,ne_eq,not_true_eq_false,if_false,fD,iu]
     exact ⟨undef,w',g,.inr ⟨rfl,rfl⟩,Gh.Le.refl g,hs,by simp only [az]; exact ⟨[],rfl,by simp [aA]⟩⟩
   . trivial
 . trivial
def G6 (t:TypeId):List AV->aD
 | [.aY,.ah]=>.new .box none (.tF t [.aY,.ah])
 | l=>.cE l
def G5 (P:Program) (t:TypeId):aD :=
 match qp P t with
 | some l=>G6 t l
 | none=>.bad
theorem og {P:Program} {t:TypeId} {l:List AV} (hz:qp P t=some l):∃ i z,P.info? t=some i/\i.zero=some z/\z.cells.toList.mapM mD=some l:=by
 unfold qp at hz
 cases hi:P.info? t with
 | none=>simp [hi] at hz
 | some i =>
   cases ur:i.zero with
   | none=>simp [hi,ur] at hz
   | some z=>simp [hi,ur] at hz; exact ⟨i,z,rfl,ur,hz⟩
theorem gV {P:Program} {t:TypeId} {i:TypeInfo} {z:Value} (hi:P.info? t=some i) (hz:i.zero=some z) (w:World):(zeroValue t).run P w=.ok z w:=by
 simp [zeroValue,typeInfo,hi,hz]
theorem Bz (h:bo g U w) (e:TypeId) {l:List AV} {cur:Array Value} (hl:aA g l cur.toList) (h1:∀ u ∈ cur.toList,u.oneCell'=true) :
 aD.Fits C g U (.cE l) (.ok (.value (.pointer (some ⟨w.heap.size,0,none⟩))) (w.alloc (.cells cur e))):=by
 obtain ⟨b,g',hb,hle,hx,hs⟩:=h.cE e cur cur.toList [] l (by simp) hl h1
 exact ⟨_,_,g',b,rfl,hb,hle,hs,by simp only [NV.at,az]; exact ⟨_,hx,rfl⟩⟩
theorem JF (h:bo g U w) {t:TypeId}:aD.Fits C g U (G5 C.P t) ((do let x <- Instr.alloc t true (.tuple #[]); pure (Next.value x):Sem Next).run C.P w):=by
 unfold G5
 split
 . rename_i l hz
   obtain ⟨i,z,hi,ur,hm⟩:=og hz
   obtain ⟨h1,h2⟩:=eZ (g:=g) hm
   simp only [Instr.alloc,newVar,newRow,cr,cM,cJ,gV hi ur,run_newObj]
   unfold G6
   split
   . have hlen:=h1.length
     obtain ⟨b,g',hb,hle,hx,hs⟩:=h.uy (.cells z.cells t) t z.cells.size (.tF t [.aY,.ah]) fun g' hle hi hm=>⟨rfl,by simpa using hlen,z.cells,z.cells.toList,[],heap_alloc_new w _,rfl,by simp,h1.mono hle,h2,hi⟩
     exact ⟨_,_,g',b,rfl,hb,hle,hs,by simp only [NV.at,az]; exact ⟨_,hx,rfl⟩⟩
   . exact Bz h t h1 h2
 . trivial
def eS (v:AV):aD:=.cond (v.dc=true) (.cE (au v))
theorem Ob (h:bo g U w) {t:TypeId} {x:AV} {u:Value} (hx:az g x u):aD.Fits C g U (eS x) ((do let y <- Instr.box t u; pure (Next.value y):Sem Next).run C.P w):=by
 intro hl
 obtain ⟨h1,h2⟩:=za hx hl
 simp only [Instr.box,newVar,newRow,cr,cM,cJ,run_newObj]
 exact Bz h t h1 h2
def aW (x:AV):aD :=
 match x with
 | .box _ _ | .cN _ | .func (.func _) _ _=>.val x
 | _=>.bad
def xr (P:Program) (s:TypeId) (p:AV) (f:Nat):aD :=
 match zi P s f,p with
 | some o,.box b off=>.val (.box b (off+o))
 | some o,.cN l=>.val (.cN (l.drop o))
 | _,_=>.bad
theorem JU {P:Program} {s:TypeId} {f o:Nat} (h:zi P s f=some o):∃ fs x,P.underlying s=some (.struct fs)/\fs[f]?=some x/\P.cellsOf x.type ≠ 0/\x.offset=o:=by
 unfold zi at h
 split at h
 . rename_i fs hu
   split at h
   . rename_i x hx
     split at h
     . rename_i hc; cases h; exact ⟨fs,x,hu,hx,hc,rfl⟩
     . cases h
   . cases h
 . cases h
theorem xE {aI off n:Nat} {vs:List Value} (h:lU g aI off vs):lU g aI (off+n) (vs.drop n):=fun i u hu=>by
 rw [List.getElem?_drop] at hu
 have:=h (n+i) u hu
 rwa [Nat.add_assoc]
theorem CH (h:bo g U w) {s f:Nat} {p:AV} {v:Value} (hp:az g p v):aD.Fits C g U (xr C.P s p f) ((do let x <- Instr.fieldAt s v f; pure (Next.value x):Sem Next).run C.P w):=by
 have ln:∀ aI off j,(⟨aI,off,none⟩:Addr).add j=⟨aI,off+j,none⟩:=fun aI off j=>by unfold Addr.add; split <;> simp_all
 have key:∀ (o:Nat) (aI off:Nat),zi C.P s f=some o->v=.pointer (some ⟨aI,off,none⟩) ->
  ((do let x <- Instr.fieldAt s v f; pure (Next.value x):Sem Next).run C.P w)=.ok (.value (.pointer (some ⟨aI,off+o,none⟩))) w:=fun o aI off ho hv=>by
  obtain ⟨fs,x,hu,hx,hc,rfl⟩:=JU ho
  subst hv
  obtain ⟨i,hi,hic⟩:∃ i,C.P.info? x.type=some i/\i.size=C.P.cellsOf x.type:=by
   cases hi:C.P.info? x.type with
   | none=>simp [Program.cellsOf,hi] at hc
   | some i=>exact ⟨i,rfl,by simp [Program.cellsOf,hi]⟩
  simp only [Instr.fieldAt,cr,cM,cJ,run_underlying hu,hx,Instr.sureAddr,fieldPlace,fe hi,hic,if_neg hc,fD,ln]
 unfold xr
 split
 . rename_i o b off ho
   simp only [az] at hp
   obtain ⟨x,hx,hv⟩:=hp
   rw [key o x.aI off ho hv]
   exact a8 h (by simp only [az]; exact ⟨x,hx,rfl⟩)
 . rename_i o l ho
   simp only [az] at hp
   obtain ⟨aI,off,vs,hv,hi,hr⟩:=hp
   rw [key o aI off ho hv]
   exact a8 h (by simp only [az]; exact ⟨aI,off+o,vs.drop o,rfl,xE hi,hr.drop o⟩)
 . trivial
theorem jc {P:Program} {t e:TypeId} {sz:Nat} (h:fH P t=some (e,sz)) :
 ∃ i z,P.underlying t=some (.slice e)/\P.info? e=some i/\i.zero=some z/\z.cells.size=sz/\i.size=sz/\0 < sz/\i.bytes <= 32768/\(∀ u ∈ z.cells.toList,u.oneCell'=true):=by
 unfold fH at h
 split at h
 . rename_i e' hu
   split at h
   . rename_i i hi
     split at h
     . rename_i z hz
       split at h
       . rename_i hc
         simp only [ja,jA] at h
         obtain ⟨rfl,rfl⟩:=h
         refine ⟨i,z,hu,hi,hz,hc.1,rfl,hc.2.1,hc.2.2.1,fun u hu=>?_⟩
         have:=hc.2.2.2
         rw [Array.all_eq_true_iff_forall_mem] at this
         exact this u (by simpa using hu)
       . cases h
     . cases h
   . cases h
 . cases h
def vD (P:Program) (t:TypeId):Option (Nat × TypeId × Nat) :=
 match P.underlying t with
 | some (.array n e)=>match P.info? e with
   | some i=>some (n,e,i.size)
   | none=>none
 | _=>none
theorem uQ {P:Program} {t e:TypeId} {n sz:Nat} (h:vD P t=some (n,e,sz)):∃ i,P.underlying t=some (.array n e)/\P.info? e=some i/\i.size=sz:=by
 unfold vD at h
 split at h
 . rename_i n' e' hu
   split at h
   . rename_i i hi
     simp only [ja,jA] at h
     obtain ⟨rfl,rfl,rfl⟩:=h
     exact ⟨i,hu,hi,rfl⟩
   . cases h
 . cases h
def NY (P:Program) (t:TypeId) (x i:AV):aD :=
 match vD P t,x,i with
 | some (n,_,sz),.cN l,.int _ j=>.cond (0 <= j/\j < n) (.val (.cN (l.drop (j.toNat * sz))))
 | some (n,_,sz),.box b off,.int _ j=>.cond (0 <= j/\j < n) (.val (.box b (off+j.toNat * sz)))
 | _,_,_=>.bad
def xF (P:Program) (t:TypeId) (x i:AV):aD :=
 match fH P t,x,i with
 | none,x,i=>NY P t x i
 | some (_,sz),.vec n _ l,.int _ j=>.cond (0 <= j/\j < n) (.val (.cN (l.drop (j.toNat * sz))))
 | some (_,sz),.ms b off n jr _,.int _ j=>.cond (0 <= j/\j < n/\jr=sz) (.val (.box b (off+j.toNat * sz)))
 | _,_,_=>.bad
theorem C3 (h:bo g U w) {t:TypeId} {x y:AV} {v u:Value} (hx:az g x v) (hy:az g y u):aD.Fits C g U (xF C.P t x y) ((do let x <- Instr.indexAt t v u; pure (Next.value x):Sem Next).run C.P w):=by
 have ln:∀ aI off j,(⟨aI,off,none⟩:Addr).add j=⟨aI,off+j,none⟩:=fun aI off j=>by unfold Addr.add; split <;> simp_all
 have key:∀ (e:TypeId) (sz:Nat) (aI off n c:Nat) (k:IntKind) (j:Int),fH C.P t=some (e,sz)->v=.slice (some ⟨aI,off,none⟩) n c->u=.int k j->0 <= j->j < n ->
  ((do let x <- Instr.indexAt t v u; pure (Next.value x):Sem Next).run C.P w)=.ok (.value (.pointer (some ⟨aI,off+j.toNat * sz,none⟩))) w:=fun e sz aI off n c k j ho hv hu h0 h1=>by
  obtain ⟨i,z,pM,hi,hz,_,eP,_⟩:=jc ho
  subst hv hu
  simp only [Instr.indexAt,asIntOf,cr,cM,cJ,run_underlying pM,h0,h1,and_self,if_true,fD,fe hi,eP,ln]
 unfold xF
 split
 . unfold NY
   split
   . rename_i n e sz l k j ha
     rintro ⟨h0,h1⟩
     obtain ⟨i,pM,hi,eP⟩:=uQ ha
     simp only [az] at hx hy
     obtain ⟨aI,off,vs,rfl,lr,hr⟩:=hx
     subst hy
     simp only [Instr.indexAt,asIntOf,cr,cM,cJ,run_underlying pM,Instr.sureAddr,h0,h1,and_self,if_true,fD,fe hi,eP,ln]
     exact a8 h (by simp only [az]; exact ⟨aI,_,_,rfl,xE lr,hr.drop _⟩)
   . rename_i n e sz b off k j ha
     rintro ⟨h0,h1⟩
     obtain ⟨i,pM,hi,eP⟩:=uQ ha
     simp only [az] at hx hy
     obtain ⟨x,hb,rfl⟩:=hx
     subst hy
     simp only [Instr.indexAt,asIntOf,cr,cM,cJ,run_underlying pM,Instr.sureAddr,h0,h1,and_self,if_true,fD,fe hi,eP,ln]
     exact a8 h (by simp only [az]; exact ⟨x,hb,rfl⟩)
   . trivial
 . rename_i e sz n cap l k j hs
   rintro ⟨h0,h1⟩
   simp only [az] at hx hy
   obtain ⟨aI,off,c,vs,hv,_,_,_,hi,hr⟩:=hx
   rw [key e sz aI off n c k j hs hv hy h0 h1]
   exact a8 h (by simp only [az]; exact ⟨aI,_,_,rfl,xE hi,hr.drop _⟩)
 . rename_i e sz b off n jr e' k j hs
   rintro ⟨h0,h1,rfl⟩
   simp only [az] at hx hy
   obtain ⟨x,c,hb,hv,_⟩:=hx
   rw [key e jr x.aI off n c k j hs hv hy h0 h1]
   exact a8 h (by simp only [az]; exact ⟨x,hb,rfl⟩)
 . trivial
def oq (P:Program) (t:TypeId):Bool:=match P.underlying t with | some .string=>true | _=>false
def C2 (P:Program) (t:TypeId) (x i:AV):aD :=
 match x,i with
 | .str s,.int _ j=>if oq P t=true then .cond (0 <= j/\j < s.length) (.val (.int .u8 (s.getD j.toNat 0).toNat)) else .bad
 | .agg l,.int _ j=>match vD P t with
   | some (n,e,sz)=>match oP P e with
     | some (false,_)=>.cond (0 <= j/\j < n) (iX (l.drop (j.toNat * sz)))
     | some (true,k)=>.cond (0 <= j/\j < n/\k=sz/\j.toNat * sz+sz <= l.length) (.val (.agg ((l.drop (j.toNat * sz)).take sz)))
     | none=>.bad
   | none=>.bad
 | _,_=>.bad
theorem p9 {P:Program} {t:TypeId} (h:oq P t=true):P.underlying t=some .string:=by
 unfold oq at h
 split at h
 . assumption
 . cases h
theorem J0 (h:bo g U w) {t:TypeId} {x y:AV} {v u:Value} (hx:az g x v) (hy:az g y u):aD.Fits C g U (C2 C.P t x y) ((do let x <- Instr.index t v u; pure (Next.value x):Sem Next).run C.P w):=by
 unfold C2
 split
 . rename_i s k j
   split
   . rename_i ht
     rintro ⟨h0,h1⟩
     simp only [az] at hx hy
     subst hx hy
     have hj:j.toNat < s.length:=by omega
     have e:(ByteArray.mk s.toArray)[j.toNat]?=some (s.getD j.toNat 0):=by
      have eP:(ByteArray.mk s.toArray).size=s.length:=by simp [ByteArray.size]
      rw [getElem?_pos _ _ (by rw [eP]; exact hj)]
      simp [pT,pk hj]
      rfl
     simp only [Instr.index,asIntOf,cr,cM,cJ,run_underlying (p9 ht),h0,if_true,e]
     exact a8 h (by simp only [az])
   . trivial
 . rename_i l k j
   split
   . rename_i n e sz ha
     obtain ⟨i,pM,hi,eP⟩:=uQ ha
     simp only [az] at hx hy
     subst hy
     obtain ⟨vs,rfl,OJ,hr⟩:=hx
     split
     . rename_i sz' hv
       obtain ⟨i',d,lr,hd,hb,_⟩:=px hv
       rintro ⟨h0,h1⟩
       cases hl:l.drop (j.toNat * sz) with
       | nil=>trivial
       | cons z zs =>
         have hz:l[j.toNat * sz]?=some z:=by
          have:=congrArg (fun l=>l[0]?) hl
          simpa using this
         obtain ⟨u,hu2,hzu⟩:=hr.get hz
         have e1:vs.toArray[j.toNat * sz]?=some u:=by simpa using hu2
         simp only [Instr.index,asIntOf,cr,cM,cJ,run_underlying pM,h0,h1,and_self,if_true,fD,fe hi,eP,part,mi hd,hb,bU,if_false,e1]
         exact a8 h hzu
     . rename_i k' hv
       obtain ⟨i',d,lr,hd,hb,hk⟩:=px hv
       rw [hi] at lr; cases lr
       rintro ⟨h0,h1,rfl,h2⟩
       simp only [Instr.index,asIntOf,cr,cM,cJ,run_underlying pM,h0,h1,and_self,if_true,fD,fe hi,eP,part,mi hd,hb]
       refine a8 h ?_
       simp only [az]
       refine ⟨(vs.drop (j.toNat * k')).take k',?_,fun u hu=>OJ u (List.mem_of_mem_drop (List.mem_of_mem_take hu)),(hr.drop _).take _⟩
       congr 1
       apply Array.ext'
       simp [List.extract_eq_take_drop]
     . trivial
   . trivial
 . trivial
end
end Go.Rip
namespace Go.Rip
open Go.RowKit
section
variable {C:cQ} {g:Gh} {U:St} {w:World}
theorem rH {P:Program} {d:Nat}:∀ (fs:List Field) (i:Nat) (ks:List FK) (xs ys:List AV) (us vs:Array Value) (r:Bool),wj P fs i=some ks->pL ks xs ys=some r ->
 aA g xs (us.toList.drop i)->aA g ys (vs.toList.drop i)->(Op.eqFields (d+1) us vs fs).run P w=.ok r w
 | [],i,ks,xs,ys,us,vs,r,hk,he,_,_=>by
   simp only [wj,ja] at hk
   subst hk
   cases xs <;> cases ys <;> simp only [pL,reduceCtorEq,ja] at he
   subst he
   simp [Op.eqFields]
 | f::fs,i,ks,xs,ys,us,vs,r,hk,he,hx,hy=>by
   simp only [wj] at hk
   split at hk
   . rename_i k ks' hf OT
     simp only [ja] at hk
     subst hk
     unfold OA at hf
     split at hf
     . rename_i hc
       obtain ⟨ho,hn⟩:=hc
       have Wg:∀ (us:Array Value) (u:Value),us[i]?=some u->∀ dd,P.underlying f.type=some dd->DQ dd=false->(part f.type us f.offset).run P w=.ok u w:=fun us u hu dd hd ha=>by
        simp only [part,cr,mi hd,cJ,ha,bU,if_false,ho,hu,cM,fD]
       have pB:∀ {xs:List AV} {x:AV} {us:Array Value},aA g (x::xs) (us.toList.drop i)->∃ u,us[i]?=some u/\az g x u/\aA g xs (us.toList.drop (i+1)):=fun {xs x us} h=>by
        simp only [aA] at h
        obtain ⟨u,rest,e,h1,h2⟩:=h
        refine ⟨u,?_,h1,?_⟩
        . have:=congrArg (fun l=>l[0]?) e
          simpa using this
        . have:=congrArg (List.drop 1) e
          rw [List.drop_drop] at this
          rw [this]; simpa using h2
       have wC:∀ (u v:Value) (q r':Bool) (dd:TypeDesc),us[i]?=some u->vs[i]?=some v->P.underlying f.type=some dd->DQ dd=false->(Op.equalIn (d+1) f.type u v).run P w=.ok q w ->
        (Op.eqFields (d+1) us vs fs).run P w=.ok r' w->(Op.eqFields (d+1) us vs (f::fs)).run P w=.ok (q && r') w:=fun u v q r' dd hu hv hd ha heq aft=>by
        simp only [Op.eqFields,if_pos hn,cr,Wg us u hu dd hd ha,Wg vs v hv dd hd ha,cJ,heq,fD,cM,aft]
        cases q <;> simp
       split at hf
       . rename_i hd
         cases hf
         cases xs with
         | nil=>simp [pL] at he
         | cons x xs =>
           cases ys with
           | nil=>cases x <;> simp [pL] at he
           | cons y ys =>
             cases x <;> cases y <;> simp only [pL,reduceCtorEq] at he
             cases hr:pL ks' xs ys with
             | none=>simp [hr] at he
             | some r' =>
               simp [hr] at he
               subst he
               obtain ⟨u,hu,Fl,l9⟩:=pB hx
               obtain ⟨v,hv,Fm,C1⟩:=pB hy
               simp only [az] at Fl Fm
               subst Fl Fm
               have:=wC _ _ _ r' _ hu hv hd rfl (run_equalIn_bool' w d f.type _ _ hd) (rH fs (i+1) ks' xs ys us vs r' OT hr l9 C1)
               rw [this]
       . rename_i kk hd
         cases hf
         cases xs with
         | nil=>simp [pL] at he
         | cons x xs =>
           cases ys with
           | nil=>cases x <;> simp [pL] at he
           | cons y ys =>
             cases x <;> cases y <;> simp only [pL,reduceCtorEq] at he
             split at he
             . rename_i e; subst e
               cases hr:pL ks' xs ys with
               | none=>simp [hr] at he
               | some r' =>
                 simp [hr] at he
                 subst he
                 obtain ⟨u,hu,Fl,l9⟩:=pB hx
                 obtain ⟨v,hv,Fm,C1⟩:=pB hy
                 simp only [az] at Fl Fm
                 subst Fl Fm
                 have:=wC _ _ _ r' _ hu hv hd rfl (run_equalIn_int w d f.type _ _ _ _ hd) (rH fs (i+1) ks' xs ys us vs r' OT hr l9 C1)
                 rw [this]
             . cases he
       . rename_i hd
         cases hf
         cases xs with
         | nil=>simp [pL] at he
         | cons x xs =>
           cases ys with
           | nil=>cases x <;> simp [pL] at he
           | cons y ys =>
             cases x <;> cases y <;> simp only [pL,reduceCtorEq] at he
             cases hr:pL ks' xs ys with
             | none=>simp [hr] at he
             | some r' =>
               simp [hr] at he
               subst he
               obtain ⟨u,hu,Fl,l9⟩:=pB hx
               obtain ⟨v,hv,Fm,C1⟩:=pB hy
               simp only [az] at Fl Fm
               subst Fl Fm
               have:=wC _ _ _ r' _ hu hv hd rfl (run_equalIn_string w d f.type _ _ hd) (rH fs (i+1) ks' xs ys us vs r' OT hr l9 C1)
               rw [this]
               simp [ByteArray.toList_eq]
       . cases hf
     . cases hf
   . cases hk
theorem Dv {P:Program} {t:TypeId} {a b:List AV} {us vs:List Value} {r:Bool} (h:KE P t a b=some r) (ha:aA g a us) (hb:aA g b vs) :
 (Op.equalIn 10000 t (.agg us.toArray) (.agg vs.toArray)).run P w=.ok r w/\P.eqGuardType P.depth t=false:=by
 unfold KE at h
 split at h
 . rename_i ks iC
   unfold Mm at iC
   split at iC
   . rename_i fs hu
     split at iC
     . rename_i hc
       have ep:P.fieldsOf t=fs:=by simp [Program.fieldsOf,hu]
       refine ⟨?_,hc.2⟩
       rw [run_equalIn_struct w 9999 t _ _ (by rw [ep]; exact hu) hc.1,ep]
       exact rH (d:=9998) fs.toList 0 ks a b _ _ r iC h (by simpa using ha) (by simpa using hb)
     . cases iC
   . cases iC
 . cases h
theorem tE {P:Program} (w:World) (d:Nat) (t:TypeId) (ms:Array (String × TypeId)) (h:P.underlying t=some (.interface ms)) (a:TypeId) (b:Value):(Op.equalIn (d+1) t (.iface a b) .nilIface).run P w=.ok false w:=by
 simp [Op.equalIn,run_underlying h]
theorem ko {P:Program} (w:World) (d:Nat) (t e:TypeId) (h:P.underlying t=some (.pointer e)) (a:Option Addr):(Op.equalIn (d+1) t (.pointer a) (.pointer none)).run P w=.ok a.isNone w:=by
 cases a <;> simp [Op.equalIn,run_underlying h]
theorem pn {P:Program} (w:World) (d:Nat) (t e:TypeId) (h:P.underlying t=some (.slice e)) (a:Option Addr) (n c:Nat):(Op.equalIn (d+1) t (.slice a n c) (.slice none 0 0)).run P w=.ok a.isNone w:=by
 cases a <;> simp [Op.equalIn,run_underlying h]
theorem rI {P:Program} (w:World) (d:Nat) (t:TypeId) (ms:Array (String × TypeId)) (h:P.underlying t=some (.interface ms)):(Op.equalIn (d+1) t .nilIface .nilIface).run P w=.ok true w:=by
 simp [Op.equalIn,run_underlying h]
theorem N8 (h:bo g U w) {op:BinOp} {t:TypeId} {x y:AV} {u v:Value} (X Y:Operand) (hx:az g x u) (hy:az g y v) :
 aD.Fits C g U (LW C.P op t x y) ((do let r <- (do eqGuard op t X Y u v; binOp op t u v:Sem Value); pure (Next.value r):Sem Next).run C.P w):=by
 have hI:∀ (k:IntKind) (n:Int),aD.Fits C g U (jf k n) (.ok (.value (.int k (k.wrap n))) w):=fun k n=>by
  unfold jf
  split
  . intro hi
    rw [yz hi]
    exact a8 h (by simp only [az])
  . exact a8 h (by simp only [az])
 unfold LW
 split
 all_goals first
  | trivial
  | skip
 all_goals simp only [az] at hx hy
 all_goals first
  | (subst hx hy
     split
     . rename_i e; subst e
       first
        | (simp only [eqGuard,binOp,ne_eq,not_true_eq_false,if_false,Op.intArith,Op.intCmp,Op.intBits,cr,cM,cJ,Bool.not_eq_true',Bool.true_eq_false,c8,eQ,bU,if_true,fD]
           first
            | exact hI _ _
            | exact a8 h (by simp only [az]))
        | (intro hb
           simp only [eqGuard,binOp,ne_eq,not_true_eq_false,if_false,Op.intDiv,if_neg hb,cr,cM,cJ,Bool.not_eq_true',Bool.true_eq_false,c8,eQ,bU,if_true,fD]
           first
            | exact hI _ _
            | exact a8 h (by simp only [az]))
     . trivial)
  | skip
 . subst hx hy
   simp only [eqGuard,binOp,Op.stringOp,cr,cM,cJ,c8,bU,if_false,fD,ByteArray.toList_eq,List.toList_toArray]
   exact a8 h (by simp only [az])
 . subst hx hy
   simp only [eqGuard,binOp,Op.stringOp,cr,cM,cJ,c8,bU,if_false,fD,ByteArray.toList_eq,List.toList_toArray]
   exact a8 h (by simp only [az]; rfl)
 . subst hx hy
   rename_i a b
   intro hle
   have h1:¬ (((ByteArray.mk a.toArray).size+(ByteArray.mk b.toArray).size:Nat):Int) > IntKind.i64.max:=by
    have e1:(ByteArray.mk a.toArray).size=a.length:=by simp [ByteArray.size]
    have e2:(ByteArray.mk b.toArray).size=b.length:=by simp [ByteArray.size]
    have e3:IntKind.i64.max=9223372036854775807:=by simp [IntKind.max,IntKind.signed,IntKind.bits]
    rw [e1,e2,e3]; omega
   have h2:(ByteArray.mk a.toArray)++(ByteArray.mk b.toArray)=ByteArray.mk (a++b).toArray:=by
    apply ByteArray.ext
    simp
   simp only [eqGuard,binOp,Op.stringOp,cr,cM,cJ,if_neg h1,fD,c8,eQ,bU,if_true,if_false,h2]
   exact a8 h (by simp only [az])
 . subst hx hy
   split
   . rename_i ht
     have hu:C.P.underlying t=some .bool:=by unfold wO at ht; split at ht <;> simp_all
     have hr:=run_equalIn_bool' (P:=C.P) w 9999 t
     simp only [eqGuard,binOp,Op.equal,Op.maxDepth,cr,cM,cJ,hr _ _ hu,c8,bU,if_false,fD]
     exact a8 h (by simp only [az])
   . trivial
 . subst hx hy
   split
   . rename_i ht
     have hu:C.P.underlying t=some .bool:=by unfold wO at ht; split at ht <;> simp_all
     have hr:=run_equalIn_bool' (P:=C.P) w 9999 t
     simp only [eqGuard,binOp,Op.equal,Op.maxDepth,cr,cM,cJ,hr _ _ hu,c8,bU,if_false,fD]
     exact a8 h (by simp only [az]; rfl)
   . trivial
 . rename_i a b
   obtain ⟨us,rfl,_,ha⟩:=hx
   obtain ⟨vs,rfl,_,hb⟩:=hy
   cases he:KE C.P t a b with
   | none=>trivial
   | some r =>
     obtain ⟨h1,h2⟩:=Dv (w:=w) he ha hb
     simp only [vY,cr,run_eqGuard_agg w _ _ _ _ _ _ h2,cJ,run_eql_struct,h1,cM]
     exact a8 h (by simp only [az])
 . rename_i a b
   obtain ⟨us,rfl,_,ha⟩:=hx
   obtain ⟨vs,rfl,_,hb⟩:=hy
   cases he:KE C.P t a b with
   | none=>trivial
   | some r =>
     obtain ⟨h1,h2⟩:=Dv (w:=w) he ha hb
     simp only [vY,cr,run_eqGuard_agg w _ _ _ _ _ _ h2,cJ,run_neq_struct,h1,cM]
     exact a8 h (by simp only [az])
 . obtain ⟨u',rfl,_⟩:=hx
   subst hy
   split
   . rename_i ht
     obtain ⟨ms,hu⟩:∃ ms,C.P.underlying t=some (.interface ms):=by unfold lu at ht; split at ht <;> simp_all
     have hr:=tE (P:=C.P) w 9999 t ms hu
     simp only [eqGuard,binOp,Op.equal,Op.maxDepth,hr,cr,cM,cJ,c8,bU,if_false,fD]
     exact a8 h (by simp only [az])
   . trivial
 . obtain ⟨u',rfl,_⟩:=hx
   subst hy
   split
   . rename_i ht
     obtain ⟨ms,hu⟩:∃ ms,C.P.underlying t=some (.interface ms):=by unfold lu at ht; split at ht <;> simp_all
     have hr:=tE (P:=C.P) w 9999 t ms hu
     simp only [eqGuard,binOp,Op.equal,Op.maxDepth,hr,cr,cM,cJ,c8,eQ,bU,if_false,fD]
     exact a8 h (by simp only [az])
   . trivial
 . subst hx hy
   split
   . rename_i ht
     obtain ⟨ms,hu⟩:∃ ms,C.P.underlying t=some (.pointer ms):=by unfold nh at ht; split at ht <;> simp_all
     have hr:=ko (P:=C.P) w 9999 t ms hu
     simp only [eqGuard,binOp,Op.equal,Op.maxDepth,hr,cr,cM,cJ,Option.isNone_none,c8,eQ,bU,if_false,fD]
     exact a8 h (by simp [az])
   . trivial
 . obtain ⟨x,_,rfl⟩:=hx
   subst hy
   split
   . rename_i ht
     obtain ⟨ms,hu⟩:∃ ms,C.P.underlying t=some (.pointer ms):=by unfold nh at ht; split at ht <;> simp_all
     have hr:=ko (P:=C.P) w 9999 t ms hu
     simp only [eqGuard,binOp,Op.equal,Op.maxDepth,hr,cr,cM,cJ,Option.isNone_none,c8,eQ,bU,if_false,fD]
     exact a8 h (by simp [az])
   . trivial
 . subst hx hy
   split
   . rename_i ht
     obtain ⟨ms,hu⟩:∃ ms,C.P.underlying t=some (.pointer ms):=by unfold nh at ht; split at ht <;> simp_all
     have hr:=ko (P:=C.P) w 9999 t ms hu
     simp only [eqGuard,binOp,Op.equal,Op.maxDepth,hr,cr,cM,cJ,Option.isNone_none,c8,eQ,bU,if_false,fD]
     exact a8 h (by simp [az])
   . trivial
 . obtain ⟨x,_,rfl⟩:=hx
   subst hy
   split
   . rename_i ht
     obtain ⟨ms,hu⟩:∃ ms,C.P.underlying t=some (.pointer ms):=by unfold nh at ht; split at ht <;> simp_all
     have hr:=ko (P:=C.P) w 9999 t ms hu
     simp only [eqGuard,binOp,Op.equal,Op.maxDepth,hr,cr,cM,cJ,Option.isNone_none,c8,eQ,bU,if_false,fD]
     exact a8 h (by simp [az])
   . trivial
 . obtain ⟨_,_,_,rfl,_⟩:=hx
   subst hy
   split
   . rename_i ht
     obtain ⟨ms,hu⟩:∃ ms,C.P.underlying t=some (.pointer ms):=by unfold nh at ht; split at ht <;> simp_all
     have hr:=ko (P:=C.P) w 9999 t ms hu
     simp only [eqGuard,binOp,Op.equal,Op.maxDepth,hr,cr,cM,cJ,Option.isNone_none,c8,eQ,bU,if_false,fD]
     exact a8 h (by simp [az])
   . trivial
 . obtain ⟨_,_,_,rfl,_⟩:=hx
   subst hy
   split
   . rename_i ht
     obtain ⟨ms,hu⟩:∃ ms,C.P.underlying t=some (.pointer ms):=by unfold nh at ht; split at ht <;> simp_all
     have hr:=ko (P:=C.P) w 9999 t ms hu
     simp only [eqGuard,binOp,Op.equal,Op.maxDepth,hr,cr,cM,cJ,Option.isNone_none,c8,eQ,bU,if_false,fD]
     exact a8 h (by simp [az])
   . trivial
 . subst hx
   subst hy
   split
   . rename_i ht
     obtain ⟨ms,hu⟩:∃ ms,C.P.underlying t=some (.slice ms):=by unfold qy at ht; split at ht <;> simp_all
     have hr:=pn (P:=C.P) w 9999 t ms hu
     simp only [eqGuard,binOp,Op.equal,Op.maxDepth,hr,cr,cM,cJ,Option.isNone_none,Option.isNone_some,c8,eQ,bU,if_false,fD]
     exact a8 h (by simp [az])
   . trivial
 . obtain ⟨_,_,_,_,rfl,_⟩:=hx
   subst hy
   split
   . rename_i ht
     obtain ⟨ms,hu⟩:∃ ms,C.P.underlying t=some (.slice ms):=by unfold qy at ht; split at ht <;> simp_all
     have hr:=pn (P:=C.P) w 9999 t ms hu
     simp only [eqGuard,binOp,Op.equal,Op.maxDepth,hr,cr,cM,cJ,Option.isNone_none,Option.isNone_some,c8,eQ,bU,if_false,fD]
     exact a8 h (by simp [az])
   . trivial
 . obtain ⟨_,_,_,rfl,_⟩:=hx
   subst hy
   split
   . rename_i ht
     obtain ⟨ms,hu⟩:∃ ms,C.P.underlying t=some (.slice ms):=by unfold qy at ht; split at ht <;> simp_all
     have hr:=pn (P:=C.P) w 9999 t ms hu
     simp only [eqGuard,binOp,Op.equal,Op.maxDepth,hr,cr,cM,cJ,Option.isNone_none,Option.isNone_some,c8,eQ,bU,if_false,fD]
     exact a8 h (by simp [az])
   . trivial
theorem N9 (h:bo g U w) {op:BinOp} {t:TypeId} {x y:AV} {u v:Value} (X Y:Operand) (hx:az g x u) (hy:az g y v) :
 aD.Fits C g U (Hb C.P op t (isLit X || isLit Y) x y) ((do let r <- (do eqGuard op t X Y u v; binOp op t u v:Sem Value); pure (Next.value r):Sem Next).run C.P w):=by
 have key:∀ (op:BinOp),(op=.eql\/op=.neq)->lu C.P t=true->(isLit X || isLit Y)=true->(eqGuard op t X Y .nilIface .nilIface).run C.P w=.ok () w:=fun op hop ht hl=>by
  obtain ⟨ms,hu⟩:∃ ms,C.P.underlying t=some (.interface ms):=by unfold lu at ht; split at ht <;> simp_all
  rcases hop with rfl | rfl <;> cases X <;> cases Y <;> simp [isLit] at hl <;> simp [eqGuard]
 unfold Hb
 split
 . simp only [az] at hx hy
   subst hx hy
   split
   . rename_i ht
     obtain ⟨ms,hu⟩:∃ ms,C.P.underlying t=some (.interface ms):=by have ht:=ht.1; unfold lu at ht; split at ht <;> simp_all
     have hr:=rI (P:=C.P) w 9999 t ms hu
     simp only [cr,key _ (.inl rfl) ht.1 ht.2,binOp,Op.equal,Op.maxDepth,hr,cM,cJ,c8,eQ,bU,if_false,fD]
     exact a8 h (by simp [az])
   . trivial
 . simp only [az] at hx hy
   subst hx hy
   split
   . rename_i ht
     obtain ⟨ms,hu⟩:∃ ms,C.P.underlying t=some (.interface ms):=by have ht:=ht.1; unfold lu at ht; split at ht <;> simp_all
     have hr:=rI (P:=C.P) w 9999 t ms hu
     simp only [cr,key _ (.inr rfl) ht.1 ht.2,binOp,Op.equal,Op.maxDepth,hr,cM,cJ,c8,eQ,bU,if_false,fD]
     exact a8 h (by simp [az])
   . trivial
 . exact N8 h X Y hx hy
end
end Go.Rip
namespace Go.Rip
open Go.RowKit
section
variable {C:cQ} {g:Gh} {U:St} {w:World}
def LR (P:Program) (t u:TypeId):Option (TypeId × Nat) :=
 match P.underlying u with
 | some (.slice _)=>fH P t
 | some .string=>match fH P t with
   | some (e,1)=>some (e,1)
   | _=>none
 | _=>none
def rJ (U:St):AV->Option (Nat × List AV)
 | .vec m _ l=>some (m,l)
 | .ah=>some (0,[])
 | .ms b off m jr _=>match U.box b with
   | some l=>some (m,(l.drop off).take (m * jr))
   | none=>none
 | .str s=>some (s.length,s.map fun b=>.int .u8 b.toNat)
 | _=>none
def DR (P:Program) (t u:TypeId) (mu:Bool) (s y:AV) (U:St):aD :=
 match LR P t u,rJ U y with
 | some (e,sz),some (m,l2) =>
   .cond (l2.length=m * sz) (match s with
   | .ah=>if m=0 then .val .ah else .cond (m <= 4294967296) (if mu then .pD m sz e none l2 else .ou m l2 none ⟨m,e,sz⟩)
   | .vec n .full l=>if m=0 then .val s else .cond (l.length=n * sz/\n+m <= 4294967296) (.ou (n+m) (l++l2) none ⟨n+m,e,sz⟩)
   | .vec n (.own τ) l=>.cond (U.tok τ=some ⟨n,e,sz⟩/\l.length=n * sz/\n+m <= 4294967296) (.ou (n+m) (l++l2) (some τ) ⟨n+m,e,sz⟩)
   | .ms b off n jr e'=>match U.box b with
     | some l=>.cond (off=0/\jr=sz/\e'=e/\n * sz <= l.length/\n+m <= 4294967296) (.pD (n+m) sz e (some b) (l.take (n * sz)++l2))
     | none=>.bad
   | _=>.bad)
 | _,_=>.bad
theorem NX {P:Program} {t u e:TypeId} {sz:Nat} (h:LR P t u=some (e,sz)):fH P t=some (e,sz)/\∃ d,P.underlying u=some d/\((∃ x,d=.slice x)\/d=.string):=by
 unfold LR at h
 split at h
 . rename_i x hx; exact ⟨h,_,hx,.inl ⟨x,rfl⟩⟩
 . rename_i hx
   split at h
   . rename_i e' he
     simp only [ja,jA] at h
     obtain ⟨rfl,rfl⟩:=h
     exact ⟨he,_,hx,.inr rfl⟩
   . cases h
 . cases h
theorem SD (h:bo g U w) {y:AV} {v:Value} (hy:az g y v) {m:Nat} {l2:List AV} (hs:rJ U y=some (m,l2)) {sz:Nat} (hl:l2.length=m * sz) :
 (∀ W,(Builtin.lenOf v).run C.P W=.ok m W)/\∃ us:List Value,aA g l2 us/\(∀ u ∈ us,u.oneCell'=true)/\∀ W:World,W.heap=w.heap->(Builtin.firstCells sz m v).run C.P W=.ok us.toArray W:=by
 have ln:∀ aI off j,(⟨aI,off,none⟩:Addr).add j=⟨aI,off+j,none⟩:=fun aI off j=>by unfold Addr.add; split <;> simp_all
 have qi:∀ (W:World) a,W.heap=w.heap->W.cell? a=w.cell? a:=fun W a hW=>by simp [World.cell?,hW]
 have read:∀ (aI off c:Nat) (us:List Value),us.length=m * sz->(∀ j u,us[j]?=some u->w.cell? ⟨aI,off+j,none⟩=some u)->∀ W:World,W.heap=w.heap ->
  (Builtin.firstCells sz m (.slice (some ⟨aI,off,none⟩) m c)).run C.P W=.ok us.toArray W:=fun aI off c us hlen hc W hW=>by
  exact run_firstCells_some W sz m ⟨aI,off,none⟩ m c us hlen (fun j u hu=>by rw [ln,qi W _ hW]; exact hc j u hu)
 cases y <;> simp only [rJ,reduceCtorEq,ja,jA] at hs
 . rename_i s
   obtain ⟨rfl,rfl⟩:=hs
   simp only [az] at hy
   subst hy
   have eP:(ByteArray.mk s.toArray).size=s.length:=by simp [ByteArray.size]
   refine ⟨fun W=>by simp [Builtin.lenOf,eP],s.map (fun b=>Value.int .u8 b.toNat),?_,by simp [Value.oneCell'],fun W _=>?_⟩
   . refine aA.Dg (by simp) fun i x u hx hu=>?_
     simp only [nr,pS] at hx hu
     obtain ⟨b,hb,rfl⟩:=hx
     obtain ⟨b',ff,rfl⟩:=hu
     rw [hb] at ff; cases ff
     simp only [az]
   . simp only [Builtin.firstCells,cM]
     congr 1
     apply Array.ext'
     simp
 . obtain ⟨rfl,rfl⟩:=hs
   simp only [az] at hy
   subst hy
   exact ⟨fun W=>by simp [Builtin.lenOf],[],by simp [aA],by simp,fun W _=>by simp [Builtin.firstCells]⟩
 . rename_i n cap l
   obtain ⟨rfl,rfl⟩:=hs
   simp only [az] at hy
   obtain ⟨aI,off,c,vs,rfl,_,_,_,hi,hr⟩:=hy
   exact ⟨fun W=>by simp [Builtin.lenOf],vs,hr,fun u hu=>by
    obtain ⟨j,hj⟩:=List.getElem?_of_mem hu
    exact (h.cB _ _ _ (hi j u hj)).2,read aI off c vs (by rw [hr.length,hl]) fun j u hu=>(h.cB _ _ _ (hi j u hu)).1⟩
 . rename_i b off n jr e'
   split at hs
   . rename_i l hb
     simp only [ja,jA] at hs
     obtain ⟨rfl,rfl⟩:=hs
     simp only [az] at hy
     obtain ⟨x,c,hx,rfl,_,_,_,_⟩:=hy
     obtain ⟨a,vs,hv,ha,hr,hc⟩:=sG h (p:=.box b off) (v:=.pointer (some ⟨x.aI,off,none⟩)) (l:=l.drop off) (by simp only [az]; exact ⟨x,hx,rfl⟩) (by simp [mW,hb])
     cases hv
     refine ⟨fun W=>by simp [Builtin.lenOf],vs.take (n * jr),hr.take _,fun u hu=>?_,read x.aI off c _ (by rw [(hr.take _).length,hl]) fun j u hu=>?_⟩
     . obtain ⟨j,hj⟩:=List.getElem?_of_mem hu
       rw [List.getElem?_take] at hj
       split at hj
       . exact (hc j u hj).2
       . cases hj
     . rw [List.getElem?_take] at hu
       split at hu
       . have:=(hc j u hu).1; rwa [ln] at this
       . cases hu
   . cases hs
theorem pH {P:Program} {w:World} {t u ty e:TypeId} {i:TypeInfo} {d:TypeDesc} (ht:P.underlying t=some (.slice e)) (hu:P.underlying u=some d) (hd:(∃ x,d=.slice x)\/d=.string) (hi:P.info? e=some i)
 {base:Option Addr} {n c m:Nat} {v:Value} {us:List Value} (hm:∀ W,(Builtin.lenOf v).run P W=.ok m W) (hf:(Builtin.firstCells i.size m v).run P w=.ok us.toArray w) (qj:n+m <= c) :
 (Builtin.append_ #[t,u] ty #[.slice base n c,v]).run P w=match base with
   | some a=>((storeCells (a.add (n * i.size)) us).run P w).andThen fun _ w'=>.ok (.slice base (n+m) c) w'
   | none=>.ok (.slice base (n+m) c) w:=by
 rcases hd with ⟨x,rfl⟩ | rfl <;> cases base <;>
  simp [Builtin.append_,run_underlying ht,run_underlying hu,sizeOf,typeInfo,hi,hm,qj,hf]
theorem Es {P:Program} {w:World} {t u ty e:TypeId} {i:TypeInfo} {z:Value} {d:TypeDesc} (ht:P.underlying t=some (.slice e)) (hu:P.underlying u=some d) (hd:(∃ x,d=.slice x)\/d=.string) (hi:P.info? e=some i) (hz:i.zero=some z) (CQ:i.bytes <= 32768)
 {base:Option Addr} {n c m:Nat} {v:Value} {zN us:List Value} (hm:∀ W,(Builtin.lenOf v).run P W=.ok m W) (hf:∀ W:World,W.heap=w.heap->(Builtin.firstCells i.size m v).run P W=.ok us.toArray W)
 (ho:∀ W:World,W.heap=w.heap->(Builtin.firstCells i.size n (.slice base n c)).run P W=.ok zN.toArray W) (agG:c < n+m) (p5:n+m <= 4294967296) :
 (Builtin.append_ #[t,u] ty #[.slice base n c,v]).run P w =
   .ok (.slice (some ⟨w.heap.size,0,none⟩) (n+m) (grownCap w (n+m) c e))
    (w.drew.alloc (.cells (zN.toArray++us.toArray++Builtin.zeroCells z.cells (grownCap w (n+m) c e - (n+m))) e)):=by
 have qj:¬ (n+m <= c):=by omega
 have TR:¬ (9223372036854775807 < ((n:Int)+(m:Int))):=by omega
 have gg:(n+m) * i.bytes <= 140737488355328:=Nat.le_trans (Nat.mul_le_mul p5 CQ) (by omega)
 have OK:=growslice_fits (old:=c) (need:=n+m) (bytes:=i.bytes) (by omega) gg
 have TQ:¬ (281474976710656 < Builtin.nextslicecap (n+m) c * i.bytes):=by omega
 have km:=hf w.drew rfl
 have Wb:=ho w.drew rfl
 rcases hd with ⟨x,rfl⟩ | rfl <;>
 . simp [Builtin.append_,run_underlying ht,run_underlying hu,sizeOf,typeInfo,zeroValue,hi,hz,hm,qj,TR,TQ,Question.forced,km,Wb,newRow,grownCap]
   congr 2
   apply Array.ext'
   simp [gn]
theorem St.KB (U:St) (d:Option Nat):St.Le (U.tf d) U:=by
 cases d with
 | none=>exact St.Le.refl U
 | some b=>exact St.uc U b
theorem pZ {w:World} (h:bo g U w) {del:Option Nat} {e:TypeId} {sz n c:Nat} {l:List AV} {vs rest:List Value} (hr:aA g l vs) (h1:∀ u ∈ vs,u.oneCell'=true) (h2:∀ u ∈ rest,u.oneCell'=true)
 (hl:l.length=n * sz) (hc:vs.length+rest.length=c * sz) (hn:n <= c) (wB:c <= maxLen) :
 aD.Fits C g U (.ou n l del ⟨n,e,sz⟩) (.ok (.value (.slice (some ⟨w.heap.size,0,none⟩) n c)) (w.alloc (.cells (vs++rest).toArray e))):=by
 obtain ⟨τ,g',h3,hle,h4,h5,h6⟩:=(h.weaken (St.KB U del)).ou e sz n c (vs++rest).toArray vs rest (by simp) (by
  intro u hu
  simp only [fS] at hu
  rcases hu with hu | hu
  . exact h1 u hu
  . exact h2 u hu) (by rw [hr.length,hl]) (by simp [hc]) hn wB
 refine ⟨_,_,g',τ,rfl,h3,hle,h6,?_⟩
 simp only [NV.at,az]
 exact ⟨w.heap.size,0,c,vs,rfl,hn,wB,⟨rfl,h4⟩,h5,hr.mono hle⟩
theorem rk {w:World} (h:bo g U w) {del:Option Nat} {e:TypeId} {sz n c:Nat} {l:List AV} {vs rest:List Value} (hr:aA g l vs) (h1:∀ u ∈ vs,u.oneCell'=true) (h2:∀ u ∈ rest,u.oneCell'=true)
 (hc:vs.length+rest.length=c * sz) (hn:n <= c) (wB:c <= maxLen) :
 aD.Fits C g U (.pD n sz e del l) (.ok (.value (.slice (some ⟨w.heap.size,0,none⟩) n c)) (w.alloc (.cells (vs++rest).toArray e))):=by
 obtain ⟨b,g',h3,hle,h4,h6⟩:=(h.weaken (St.KB U del)).cE e (vs++rest).toArray vs rest l (by simp) hr (by
  intro u hu
  simp only [fS] at hu
  rcases hu with hu | hu
  . exact h1 u hu
  . exact h2 u hu)
 refine ⟨_,_,g',b,rfl,h3,hle,h6,?_⟩
 simp only [NV.at,az]
 exact ⟨_,c,h4,rfl,hn,wB,by simp [hc],rfl⟩
theorem mP {z:Array Value} (hz:∀ u ∈ z.toList,u.oneCell'=true) (n:Nat) (hp:0 < z.size):∀ u ∈ (Builtin.zeroCells z n).toList,u.oneCell'=true:=by
 intro u hu
 simp only [Builtin.zeroCells,Array.toList_map,List.mem_map] at hu
 obtain ⟨i,_,rfl⟩:=hu
 have aQ:i % z.size < z.size:=Nat.mod_lt _ hp
 rw [getElem!_pos z _ aQ]
 exact hz _ (by simp)
theorem G7 (h:bo g U w) {t u ty:TypeId} {mu:Bool} {s y:AV} {v v2:Value} (hs:az g s v) (hy:az g y v2) :
 aD.Fits C g U (DR C.P t u mu s y U) ((do let r <- Builtin.append_ #[t,u] ty #[v,v2]; pure (Next.value r):Sem Next).run C.P w):=by
 have ln:∀ aI off j,(⟨aI,off,none⟩:Addr).add j=⟨aI,off+j,none⟩:=fun aI off j=>by unfold Addr.add; split <;> simp_all
 unfold DR
 split
 . rename_i e sz m l2 Fb MG
   intro tz
   obtain ⟨tB,d,hu,hd⟩:=NX Fb
   obtain ⟨i,z,ht,hi,hz,wI,rfl,rq,CQ,hz1⟩:=jc tB
   obtain ⟨hm,us,uo,wu,hf⟩:=SD (C:=C) h hy MG tz
   have Pa:us.length=m * i.size:=by rw [uo.length,tz]
   have grow:∀ (base:Option Addr) (n c:Nat) (zN:List Value),(∀ W:World,W.heap=w.heap->(Builtin.firstCells i.size n (.slice base n c)).run C.P W=.ok zN.toArray W)->zN.length=n * i.size->c < n+m->n+m <= 4294967296 ->
    ∃ cap rest,n+m <= cap/\cap <= maxLen/\(∀ u ∈ rest,u.oneCell'=true)/\(zN++us).length+rest.length=cap * i.size /\
    (Builtin.append_ #[t,u] ty #[.slice base n c,v2]).run C.P w=.ok (.slice (some ⟨w.drew.heap.size,0,none⟩) (n+m) cap) (w.drew.alloc (.cells ((zN++us)++rest).toArray e)):=fun base n c zN ho hol aQ p5=>by
    have kn:=grownCap_ge w (n+m) c e
    have hle:=grownCap_le_maxLen w (n+m) c e (by unfold maxLen; omega)
    refine ⟨grownCap w (n+m) c e,(Builtin.zeroCells z.cells (grownCap w (n+m) c e - (n+m))).toList,kn,hle,mP hz1 _ (by omega),?_,?_⟩
    . rw [df,hol,Pa,tm,size_zeroCells,wI,<- Nat.add_mul,<- Nat.add_mul]
      congr 1; omega
    . rw [Es ht hu hd hi hz CQ hm hf ho aQ p5]
      congr 3
      simp
   split
   . simp only [az] at hs
     subst hs
     split
     . rename_i h0
       subst h0
       rw [cr,pH ht hu hd hi hm (hf w rfl) (by omega)]
       exact a8 h (by simp only [az])
     . rename_i h0
       intro p5
       obtain ⟨cap,rest,h1,h2,h3,h4,h5⟩:=grow none 0 0 [] (fun W _=>by simp [Builtin.firstCells]) (by simp) (by omega) (by omega)
       rw [cr,h5]
       have eO:=h.grow (lj w)
       simp only [cU,jN] at h1 h4 h5 ⊢
       split
       . exact rk eO uo wu h3 h4 h1 h2
       . exact pZ eO uo wu h3 tz h4 h1 h2
   . rename_i n l
     have wH:=hs
     simp only [az] at hs
     obtain ⟨aI,off,c,vs,rfl,Fi,wB,zo,oK,hr⟩:=hs
     simp only [ra] at zo
     subst zo
     split
     . rename_i h0
       subst h0
       rw [cr,pH ht hu hd hi hm (hf w rfl) (by omega)]
       have afy:us=[]:=List.eq_nil_of_length_eq_zero (by simpa using Pa)
       subst afy
       simp only [storeCells,cM,cJ,Nat.add_zero]
       exact a8 h wH
     . rename_i h0
       rintro ⟨hl,p5⟩
       have iD:vs.length=c * i.size:=by rw [hr.length,hl]
       have ho:∀ W:World,W.heap=w.heap->(Builtin.firstCells i.size c (.slice (some ⟨aI,off,none⟩) c c)).run C.P W=.ok vs.toArray W:=fun W hW =>
        run_firstCells_some W i.size c ⟨aI,off,none⟩ c c vs iD (fun j u hu=>by
         rw [ln]
         have:W.cell? ⟨aI,off+j,none⟩=w.cell? ⟨aI,off+j,none⟩:=by simp [World.cell?,hW]
         rw [this]; exact (h.cB _ _ _ (oK j u hu)).1)
       obtain ⟨cap,rest,h1,h2,h3,h4,h5⟩:=grow (some ⟨aI,off,none⟩) c c vs ho iD (by omega) p5
       rw [cr,h5]
       have eO:=h.grow (lj w)
       refine pZ eO (hr.append uo) ?_ h3 (by rw [df,hl,tz,Nat.add_mul]) h4 h1 h2
       intro u hu
       simp only [fS] at hu
       rcases hu with hu | hu
       . obtain ⟨j,hj⟩:=List.getElem?_of_mem hu
         exact (h.cB _ _ _ (oK j u hj)).2
       . exact wu u hu
   . rename_i n τ l
     rintro ⟨abd,hl,p5⟩
     simp only [az] at hs
     obtain ⟨aI,off,c,vs,rfl,Fi,wB,zo,oK,hr⟩:=hs
     simp only [ra] at zo
     obtain ⟨rfl,wD⟩:=zo
     obtain ⟨aeR,c',cur,k1,k2,k3,k4,k5,k6,k7⟩:=h.tok τ _ abd
     rw [wD] at k1; cases k1
     have iD:vs.length=n * i.size:=by rw [hr.length,hl]
     by_cases qj:n+m <= c
     . have pP:n * i.size+us.length <= cur.size:=by
        have e4:cur.size=c * i.size:=k4
        rw [Pa,e4,<- Nat.add_mul]; exact Nat.mul_le_mul_right _ qj
       have fT:=run_storeCells_at C.P aI (n * i.size) e us 0 cur w k3 (by simpa using pP) wu
       simp only [Nat.add_zero] at fT
       rw [cr,pH ht hu hd hi hm (hf w rfl) qj]
       simp only [ln,cU,fT,cJ]
       obtain ⟨uO,g',t1,hle,t2,t3,t4⟩:=h.abU abd wD cur (cur.toList.take (n * i.size)++us++cur.toList.drop (n * i.size+us.length)).toArray us m k3 Pa qj (by simp) wu
       refine ⟨_,_,g',uO,rfl,t1,hle,t4,?_⟩
       simp only [NV.at,az]
       refine ⟨aI,0,c,vs++us,rfl,qj,wB,⟨rfl,t2⟩,fun j u hu=>?_,(hr.append uo).mono hle⟩
       by_cases hj:j < vs.length
       . rw [vR hj] at hu
         exact (oK.mono hle) j u hu
       . rw [List.getElem?_append_right (by omega)] at hu
         have e0:n * i.size+(j - vs.length)=0+j:=by omega
         have t3':g'.cB aI (n * i.size+(j - vs.length))=some u:=t3 _ u hu
         rw [e0] at t3'
         exact t3'
     . have ho:∀ W:World,W.heap=w.heap->(Builtin.firstCells i.size n (.slice (some ⟨aI,0,none⟩) n c)).run C.P W=.ok vs.toArray W:=fun W hW =>
        run_firstCells_some W i.size n ⟨aI,0,none⟩ n c vs iD (fun j u hu=>by
         rw [ln]
         have:W.cell? ⟨aI,0+j,none⟩=w.cell? ⟨aI,0+j,none⟩:=by simp [World.cell?,hW]
         rw [this]; exact (h.cB _ _ _ (oK j u hu)).1)
       obtain ⟨cap,rest,h1,h2,h3,h4,h5⟩:=grow (some ⟨aI,0,none⟩) n c vs ho iD (by omega) p5
       rw [cr,h5]
       have eO:=h.grow (lj w)
       refine pZ eO (hr.append uo) ?_ h3 (by rw [df,hl,tz,Nat.add_mul]) h4 h1 h2
       intro u hu
       simp only [fS] at hu
       rcases hu with hu | hu
       . obtain ⟨j,hj⟩:=List.getElem?_of_mem hu
         exact (h.cB _ _ _ (oK j u hj)).2
       . exact wu u hu
   . rename_i b off n jr e'
     split
     . rename_i l hb
       rintro ⟨rfl,rfl,rfl,hnl,p5⟩
       simp only [az] at hs
       obtain ⟨x,c,hx,rfl,Fi,wB,adN,K6⟩:=hs
       obtain ⟨x',cur,vs,ad1,k1,k2,k3,k4,k5,k6,k7,k8⟩:=h.box b l hb
       rw [hx] at k1; cases k1
       have ui:cur.size=c * i.size:=by rw [k4]; omega
       have iD:=k6.length
       by_cases qj:n+m <= c
       . have pP:n * i.size+us.length <= cur.size:=by
          rw [Pa,ui,<- Nat.add_mul]; exact Nat.mul_le_mul_right _ qj
         have fT:=run_storeCells_at C.P x.aI (n * i.size) x.e us 0 cur w k3 (by simpa using pP) wu
         simp only [Nat.add_zero] at fT
         rw [cr,pH ht hu hd hi hm (hf w rfl) qj]
         simp only [ln,cU,fT,cJ]
         have e1:cur.toList.take (n * i.size)=vs.take (n * i.size):=by rw [k5,List.take_append_of_le_length (by omega)]
         have zw:=h.setRow hb hx (l':=l.take (n * i.size)++l2) (cur.toList.take (n * i.size)++us++cur.toList.drop (n * i.size+us.length)).toArray (vs.take (n * i.size)++us) (cur.toList.drop (n * i.size+us.length)) (by
          simp only [List.size_toArray,df,List.length_take,List.length_drop,tm]; omega) (by simp [e1]) ((k6.take _).append uo) (by
          intro u hu
          simp only [fS] at hu
          rcases hu with (hu | hu) | hu
          . exact k7 u (List.mem_of_mem_take hu)
          . exact wu u hu
          . exact k7 u (List.mem_of_mem_drop hu))
         obtain ⟨b',g',f1,hle,f2,f3⟩:=zw.rename (b:=b) (x:=.box (l.take (n * i.size)++l2)) (by simp [St.cg,St.set]) hx
         have ed:(U.cg b (l.take (n * i.size)++l2)).del b=U.del b:=by
          simp only [St.cg,St.set,St.del,St.mk.injEq,and_true]
          funext y
          split <;> rfl
         rw [ed] at f1 f3
         refine ⟨_,_,g',b',rfl,f1,hle,f3,?_⟩
         simp only [NV.at,az]
         exact ⟨x,c,f2,rfl,qj,wB,adN,K6⟩
       . have hvn:(vs.take (n * i.size)).length=n * i.size:=by simp; omega
         have ho:∀ W:World,W.heap=w.heap->(Builtin.firstCells i.size n (.slice (some ⟨x.aI,0,none⟩) n c)).run C.P W=.ok (vs.take (n * i.size)).toArray W:=fun W hW =>
          run_firstCells_some W i.size n ⟨x.aI,0,none⟩ n c _ hvn (fun j u hu=>by
           rw [ln]
           have:W.cell? ⟨x.aI,0+j,none⟩=w.cell? ⟨x.aI,0+j,none⟩:=by simp [World.cell?,hW]
           rw [this,cell_of_row _ _ _ cur x.e (0,0) k3,cU,<- lA,k5]
           rw [List.getElem?_take] at hu
           split at hu
           . rw [vR (by omega)]; exact hu
           . cases hu)
         obtain ⟨cap,rest,h1,h2,h3,h4,h5⟩:=grow (some ⟨x.aI,0,none⟩) n c _ ho hvn (by omega) p5
         rw [cr,h5]
         have eO:=h.grow (lj w)
         refine rk eO ((k6.take _).append uo) ?_ h3 h4 h1 h2
         intro u hu
         simp only [fS] at hu
         rcases hu with hu | hu
         . refine k7 u ?_
           rw [k5]
           exact List.mem_append_left _ (List.mem_of_mem_take hu)
         . exact wu u hu
     . trivial
   . trivial
 . trivial
end
end Go.Rip
namespace Go.Rip
open Go.RowKit
section
variable {C:cQ} {g:Gh} {U:St} {w:World}
def eh (zf:Int):Option AV->Option Int
 | none=>some zf
 | some (.int _ n)=>some n
 | _=>none
def xn:lg->Option AV->lg
 | .full,none=>.full
 | _,_=>.iE
def Jg (P:Program) (t:TypeId) (x:AV) (lo hi:Option AV):aD :=
 match x with
 | .str s=>match oq P t,eh 0 lo,eh s.length hi with
   | true,some l,some h=>.cond (0 <= l/\l <= h/\h <= s.length) (.val (.str ((s.take h.toNat).drop l.toNat)))
   | _,_,_=>.bad
 | .vec n cap l=>match fH P t,eh 0 lo,eh n hi with
   | some (_,sz),some a,some b=>.cond (0 <= a/\a <= b/\b <= n) (.val (.vec (b.toNat - a.toNat) (xn cap hi) ((l.take (b.toNat * sz)).drop (a.toNat * sz))))
   | _,_,_=>.bad
 | .ah=>match fH P t,eh 0 lo,eh 0 hi with
   | some (_,_),some a,some b=>.cond (a=0/\b=0) (.val .ah)
   | _,_,_=>.bad
 | .ms b off n jr e=>match fH P t,eh 0 lo,eh n hi with
   | some (_,sz),some a,some h=>.cond (0 <= a/\a <= h/\h <= n/\(a < n\/a=0)/\jr=sz) (.val (.ms b (off+a.toNat * sz) (h.toNat - a.toNat) jr e))
   | _,_,_=>.bad
 | _=>.bad
theorem run_sliceBound {P:Program} {x:Value} {k:IntKind} {n:Int} {y:Nat} {code:BoundsCode} (hx:x=.int k n) (h0:0 <= n) (h1:n <= y):(Instr.sliceBound x y code).run P w=.ok n.toNat w:=by
 subst hx
 simp [Instr.sliceBound,asIntOf,h0,h1]
theorem CA {zf:Int} {o:Option AV} {v:Option Value} {n:Int} (hr:match o,v with | none,none=>True | some x,some u=>az g x u | _,_=>False) (hb:eh zf o=some n) :
 (o=none/\v=none/\n=zf)\/∃ k u,v=some u/\u=.int k n/\∃ x,o=some x:=by
 cases o with
 | none =>
   cases v with
   | none=>simp [eh] at hb; exact .inl ⟨rfl,rfl,hb.symm⟩
   | some u=>exact hr.elim
 | some x =>
   cases v with
   | none=>exact hr.elim
   | some u =>
     cases x <;> simp only [eh,reduceCtorEq,ja] at hb
     subst hb
     simp only [az] at hr
     exact .inr ⟨_,u,rfl,hr,_,rfl⟩
theorem oX {P:Program} {isS:Bool} {len cap:Nat} {lo hi:Option AV} {vl vh:Option Value} {a b:Int}
 (hl:match lo,vl with | none,none=>True | some x,some u=>az g x u | _,_=>False) (hh:match hi,vh with | none,none=>True | some x,some u=>az g x u | _,_=>False)
 (ha:eh 0 lo=some a) (hb:eh len hi=some b) (h0:0 <= a) (h1:a <= b) (h2:b <= len) (h3:len <= cap) :
 (Instr.sliceBounds isS len cap vl vh none).run P w=.ok (a.toNat,b.toNat,cap) w:=by
 rcases CA hl ha with ⟨_,rfl,rfl⟩ | ⟨k,u,rfl,hu,_⟩ <;> rcases CA hh hb with ⟨_,rfl,rfl⟩ | ⟨k',u',rfl,pM,_⟩
 . simp [Instr.sliceBounds]
 . have e1:∀ c,(Instr.sliceBound u' cap c).run P w=.ok b.toNat w:=fun c=>run_sliceBound pM (by omega) (by omega)
   simp [Instr.sliceBounds,e1]
 . have e1:∀ c,(Instr.sliceBound u len c).run P w=.ok a.toNat w:=fun c=>run_sliceBound hu h0 (by omega)
   simp [Instr.sliceBounds,e1]
 . have e1:∀ c,(Instr.sliceBound u' cap c).run P w=.ok b.toNat w:=fun c=>run_sliceBound pM (by omega) (by omega)
   have e2:∀ c,(Instr.sliceBound u b.toNat c).run P w=.ok a.toNat w:=fun c=>run_sliceBound hu h0 (by omega)
   simp [Instr.sliceBounds,e1,e2]
theorem Kk (h:bo g U w) {t:TypeId} {x:AV} {v:Value} {lo hi:Option AV} {vl vh:Option Value} (hx:az g x v)
 (hl:match lo,vl with | none,none=>True | some x,some u=>az g x u | _,_=>False) (hh:match hi,vh with | none,none=>True | some x,some u=>az g x u | _,_=>False) :
 aD.Fits C g U (Jg C.P t x lo hi) ((do let r <- Instr.sliceAt t v vl vh none; pure (Next.value r):Sem Next).run C.P w):=by
 have ln:∀ aI off j,(⟨aI,off,none⟩:Addr).add j=⟨aI,off+j,none⟩:=fun aI off j=>by unfold Addr.add; split <;> simp_all
 unfold Jg
 split
 . rename_i s
   split
   . rename_i a b ht ha hb
     rintro ⟨h0,h1,h2⟩
     simp only [az] at hx
     subst hx
     have eP:(ByteArray.mk s.toArray).size=s.length:=by simp [ByteArray.size]
     have hr:=oX (w:=w) (P:=C.P) (isS:=false) hl hh ha hb h0 h1 h2 (cX _)
     simp only [Instr.sliceAt,Instr.slice,run_underlying (p9 ht),cr,cJ,eP,hr,cM,Option.isSome_none,bU,if_false]
     refine a8 h ?_
     simp only [az]
     congr 1
     apply ByteArray.ext
     simp only [ByteArray.data_extract]
     apply Array.ext'
     simp [List.extract_eq_take_drop,List.drop_take]
   . trivial
 . rename_i n cap l
   split
   . rename_i e sz a b ht ha hb
     rintro ⟨h0,h1,h2⟩
     simp only [az] at hx
     obtain ⟨aI,off,c,vs,rfl,Fi,wB,zo,oK,hr⟩:=hx
     obtain ⟨i,z,hu,lr,hz,wI,rfl,rq,_⟩:=jc ht
     have iu:=oX (w:=w) (P:=C.P) (isS:=true) hl hh ha hb h0 h1 h2 Fi
     simp only [Instr.sliceAt,Instr.slice,run_underlying hu,cr,cJ,iu,cM,fe lr]
     refine a8 h ?_
     have ady:ra g (xn cap hi) aI (if c=a.toNat then off else off+a.toNat * i.size) (b.toNat - a.toNat) (c - a.toNat):=by
      cases cap with
      | full =>
        cases hi with
        | none =>
          simp only [xn,ra] at zo ⊢
          simp only [eh,ja] at hb
          omega
        | some y=>trivial
      | own τ=>trivial
      | iE=>trivial
     simp only [az]
     refine ⟨aI,if c=a.toNat then off else off+a.toNat * i.size,c - a.toNat,(vs.take (b.toNat * i.size)).drop (a.toNat * i.size),?_,by omega,by omega,ady,?_,(hr.take _).drop _⟩
     . simp only [Option.map_some,ln]
       split <;> rfl
     . split
       . rename_i e1
         have:(vs.take (b.toNat * i.size)).drop (a.toNat * i.size)=[]:=by
          rw [List.drop_eq_nil_iff]
          have:b.toNat <= a.toNat:=by omega
          have:=Nat.mul_le_mul_right i.size this
          simp; omega
         rw [this]; intro j u hu; simp at hu
       . intro j u hu
         rw [List.getElem?_drop,List.getElem?_take] at hu
         split at hu
         . have:=oK _ u hu
           rw [Nat.add_assoc]; exact this
         . cases hu
   . trivial
 . split
   . rename_i e sz a b ht ha hb
     rintro ⟨rfl,rfl⟩
     simp only [az] at hx
     subst hx
     obtain ⟨i,z,hu,lr,hz,wI,rfl,rq,_⟩:=jc ht
     have iu:=oX (w:=w) (P:=C.P) (isS:=true) (len:=0) (cap:=0) hl hh ha (by simpa using hb) (by omega) (by omega) (by simp) (cX _)
     simp only [Instr.sliceAt,Instr.slice,run_underlying hu,cr,cJ,iu,cM,fe lr]
     refine a8 h (by simp [az])
   . trivial
 . rename_i b off n jr e
   split
   . rename_i e' sz a hh' ht ha hb
     rintro ⟨h0,h1,h2,h3,rfl⟩
     simp only [az] at hx
     obtain ⟨y,c,hy,rfl,Fi,wB,eP,K6⟩:=hx
     obtain ⟨i,z,hu,lr,hz,wI,rfl,rq,_⟩:=jc ht
     have iu:=oX (w:=w) (P:=C.P) (isS:=true) hl hh ha hb h0 h1 h2 Fi
     simp only [Instr.sliceAt,Instr.slice,run_underlying hu,cr,cJ,iu,cM,fe lr]
     refine a8 h ?_
     simp only [az]
     have e2:off+a.toNat * i.size+(c - a.toNat) * i.size=y.size:=by
      have:a.toNat * i.size+(c - a.toNat) * i.size=c * i.size:=by rw [<- Nat.add_mul]; congr 1; omega
      omega
     refine ⟨y,c - a.toNat,hy,?_,by omega,by omega,e2,K6⟩
     simp only [Option.map_some,ln]
     split
     . rename_i e1
       have h0a:a.toNat=0:=by omega
       simp [h0a]
     . rfl
   . trivial
 . trivial
def kr (op:UnOp) (x:AV):aD :=
 match op,x with
 | .not,.bool b=>.val (.bool (!b))
 | .neg,.int k n=>jf k (0 - n)
 | _,_=>.bad
theorem JG (h:bo g U w) (k:IntKind) (n:Int):aD.Fits C g U (jf k n) (.ok (.value (.int k (k.wrap n))) w):=by
 unfold jf
 split
 . intro hi
   rw [yz hi]
   exact a8 h (by simp only [az])
 . exact a8 h (by simp only [az])
theorem Vx (h:bo g U w) {op:UnOp} {x:AV} {v:Value} (hx:az g x v):aD.Fits C g U (kr op x) ((do let r <- Op.unary op v; pure (Next.value r):Sem Next).run C.P w):=by
 unfold kr
 split
 . simp only [az] at hx; subst hx
   exact a8 h (by simp only [az])
 . simp only [az] at hx; subst hx
   simp only [Op.unary,Op.intArith,cr,cM,cJ]
   exact JG h _ _
 . trivial
def MM (P:Program) (t:TypeId):Option IntKind:=match P.underlying t with | some (.int k)=>some k | _=>none
def xI (P:Program) (t:TypeId):Bool:=match P.underlying t with
 | some (.slice e)=>match P.underlying e with
   | some (.int .u8)=>true
   | _=>false
 | _=>false
theorem Gs {P:Program} {t:TypeId} (h:xI P t=true):∃ e,P.underlying t=some (.slice e)/\P.underlying e=some (.int .u8):=by
 unfold xI at h
 split at h
 . rename_i e he
   split at h
   . rename_i hu; exact ⟨e,he,hu⟩
   . cases h
 . cases h
def Gz (P:Program) (src dst:TypeId) (x:AV):aD :=
 match MM P dst,(P.underlying src).isSome,x with
 | some .i64,true,.int _ n=>.cond (wa n) (.val (.int .i64 n))
 | some k,true,.int _ n=>.val (.int k (k.wrap n))
 | none,true,.str s=>if oq P dst=true/\oq P src=true then .val (.str s) else
   if xI P dst=true/\oq P src=true then .cond (s.length <= 4294967296) (.val (.vec s.length .iE (s.map fun b=>.int .u8 b.toNat))) else .bad
 | _,_,_=>.bad
theorem Gu (h:bo g U w) {src dst e:TypeId} {s:List UInt8} (hd:C.P.underlying dst=some (.slice e)) (he:C.P.underlying e=some (.int .u8)) (hs:C.P.underlying src=some .string) (hlen:s.length <= 4294967296) :
 aD.Fits C g U (.val (.vec s.length .iE (s.map fun b=>.int .u8 b.toNat))) ((do let r <- convert src dst (.string ⟨s.toArray⟩); pure (Next.value r):Sem Next).run C.P w):=by
 have iu:=Lib.run_convert_string_bytes (P:=C.P) w src dst e ⟨s.toArray⟩ hs hd he
 have eP:(ByteArray.mk s.toArray).size=s.length:=by simp [ByteArray.size]
 rw [eP] at iu
 have kn:=grownCap_ge w s.length 0 e
 have hle:=grownCap_le_maxLen w s.length 0 e (by unfold maxLen; omega)
 let vs:List Value:=s.map fun b=>.int .u8 b.toNat
 let g':Gh:={ g with cB:=fun aI o=>if aI=w.heap.size then vs[o]? else g.cB aI o }
 have qw:∀ o,g'.cB w.heap.size o=vs[o]?:=fun o=>by show (if w.heap.size=w.heap.size then _ else _)=_; rw [if_pos rfl]
 have hold:∀ aI o,aI ≠ w.heap.size->g'.cB aI o=g.cB aI o:=fun aI o hx=>by show (if aI=w.heap.size then _ else _)=_; rw [if_neg hx]
 have MB:Gh.Le g g':=⟨rfl,rfl,fun _ _ h=>h,fun aI o u hu=>by
  rw [hold _ _ (fun e=>by subst e; rw [h.Ax (cX _)] at hu; cases hu)]; exact hu,fun _ _ h=>h,fun _ h=>h,fun q o hq=>hold _ _ (by have:=h.le; omega),fun _ _=>rfl⟩
 have eO:bo g' U (Lib.bytesWorld w e ⟨s.toArray⟩):=by
  refine h.change w.heap.size h.le MB rfl rfl ⟨rfl,rfl,rfl,by rw [Lib.bytesWorld_size]; omega⟩ (fun k _ hk=>Lib.bytesWorld_at_old w e _ k hk) hold (fun _ _=>rfl) (fun o u hu=>?_) (fun es c hr=>?_) (fun b x p k1 k2=>Nat.ne_of_lt (h.xX k1 k2)) (h.Er (cX _))
  . rw [qw] at hu
    simp only [vs,nr,pS] at hu
    obtain ⟨b,hb,rfl⟩:=hu
    have aQ:=(dx.1 hb).1
    refine ⟨?_,rfl⟩
    rw [Lib.bytesWorld_cell w e ⟨s.toArray⟩ o (by rw [eP]; exact aQ)]
    simp [List.getD,hb]
  . have:g.ca w.heap.size=some (es,c):=hr
    rw [h.xD (cX _)] at this; cases this
 simp only [cr,iu,cJ,cM]
 refine ⟨_,_,g',.inl rfl,MB,eO,?_⟩
 simp only [az]
 refine ⟨w.heap.size,0,_,vs,rfl,kn,hle,trivial,fun i u hu=>by rw [cU,qw]; exact hu,?_⟩
 refine aA.Dg (by simp [vs]) fun i x v hx hv=>?_
 simp only [vs,nr,pS] at hx hv
 obtain ⟨b,hb,rfl⟩:=hx
 obtain ⟨b',ff,rfl⟩:=hv
 rw [hb] at ff; cases ff
 simp only [az]
theorem Ma (h:bo g U w) {src dst:TypeId} {x:AV} {v:Value} (hx:az g x v):aD.Fits C g U (Gz C.P src dst x) ((do let r <- convert src dst v; pure (Next.value r):Sem Next).run C.P w):=by
 unfold Gz
 split
 . rename_i k n hk hs
   simp only [az] at hx; subst hx
   have hu:C.P.underlying dst=some (.int .i64):=by unfold MM at hk; split at hk <;> simp_all
   obtain ⟨d,hd⟩:=Option.isSome_iff_exists.1 hs
   intro hi
   simp only [convert,run_underlying hu,run_underlying hd,cr,cM,cJ,Conv.intToInt]
   rw [yz hi]
   exact a8 h (by simp only [az])
 . rename_i k _ n _ hk hs
   simp only [az] at hx; subst hx
   have hu:C.P.underlying dst=some (.int k):=by unfold MM at hk; split at hk <;> simp_all
   obtain ⟨d,hd⟩:=Option.isSome_iff_exists.1 hs
   simp only [convert,run_underlying hu,run_underlying hd,cr,cM,cJ,Conv.intToInt]
   exact a8 h (by simp only [az])
 . split
   . rename_i hc
     simp only [az] at hx; subst hx
     simp only [convert,run_underlying (p9 hc.1),run_underlying (p9 hc.2),cr,cM,cJ]
     exact a8 h (by simp only [az])
   . split
     . rename_i hc
       intro hlen
       simp only [az] at hx; subst hx
       obtain ⟨e,hd,he⟩:=Gs hc.1
       exact Gu h hd he (p9 hc.2) hlen
     . trivial
 . trivial
def zJ (P:Program) (t:TypeId):Bool:=match P.underlying t with | some (.interface _)=>false | some _=>true | none=>false
def xS (P:Program) (t:TypeId) (x:AV):aD:=if zJ P t=true then .val (.iface t x) else .bad
theorem Da (h:bo g U w) {t:TypeId} {x:AV} {v:Value} (hx:az g x v):aD.Fits C g U (xS C.P t x) ((do let r <- Instr.makeInterface t v; pure (Next.value r):Sem Next).run C.P w):=by
 unfold xS
 split
 . rename_i hc
   unfold zJ at hc
   split at hc
   . cases hc
   . rename_i d hn hd
     simp only [Instr.makeInterface,run_underlying hd,cr,cJ]
     cases d
     case interface=>exact (hn _ rfl).elim
     all_goals
      simp only [cM,cJ]
      exact a8 h (by simp only [az]; exact ⟨v,rfl,hx⟩)
   . cases hc
 . trivial
def aT (x:AV) (i:Nat):aD :=
 match x with
 | .aH l=>iX (l.drop i)
 | _=>.bad
theorem Gp (h:bo g U w) {x:AV} {v:Value} (hx:az g x v) (i:Nat):aD.Fits C g U (aT x i) ((do let r <- Instr.extract v i; pure (Next.value r):Sem Next).run C.P w):=by
 unfold aT
 split
 . rename_i l
   simp only [az] at hx
   obtain ⟨vs,rfl,hr⟩:=hx
   cases hd:l.drop i with
   | nil=>trivial
   | cons y ys =>
     have hy:l[i]?=some y:=by
      have:=congrArg (fun l=>l[0]?) hd
      simpa using this
     obtain ⟨u,hu,hyu⟩:=hr.get hy
     have e:vs.toArray[i]?=some u:=by simpa using hu
     simp only [Instr.extract,e,cr,cM,cJ]
     exact a8 h hyu
 . trivial
def uA (x:AV):aD :=
 match x with
 | .iface t v=>.panic (.iface t v)
 | _=>.bad
theorem Kc (h:bo g U w) {x:AV} {v:Value} (hx:az g x v):aD.Fits C g U (uA x) ((do let r <- Instr.panic v; pure (Next.value r):Sem Next).run C.P w):=by
 unfold uA
 split
 . have l9:=hx
   simp only [az] at hx
   obtain ⟨u,rfl,hu⟩:=hx
   simp only [Instr.panic,cr,run_goPanic,Result.andThen_halt]
   exact ⟨_,w,rfl,h,l9⟩
 . trivial
theorem Ei (h:bo g U w) {ev:Operand->Value} {o:Oper} {X:Operand} {x:AV} (ho:o.op=.nilCheck X) (hx:az g x (ev X)):aD.Fits C g U (aW x) ((execOp ev o).run C.P w):=by
 unfold aW
 split
 . have l9:=hx
   simp only [az] at hx
   obtain ⟨y,_,hv⟩:=hx
   simp only [execOp,ho,hv,cM]
   rw [hv] at l9
   exact a8 h l9
 . have l9:=hx
   simp only [az] at hx
   obtain ⟨_,_,_,hv,_⟩:=hx
   simp only [execOp,ho,hv,cM]
   rw [hv] at l9
   exact a8 h l9
 . have l9:=hx
   simp only [az] at hx
   obtain ⟨_,_,hv,_⟩:=hx
   simp only [execOp,ho,hv,cM]
   rw [hv] at l9
   exact a8 h l9
 . trivial
def MV (P:Program) (t:TypeId):Option Bool :=
 match P.underlying t with
 | some .string=>some true
 | some (.slice _)=>some false
 | _=>none
def Iu (P:Program) (t:TypeId) (x:AV) (U:St):aD :=
 match MV P t,x with
 | some true,.str s=>.val (.int .i64 s.length)
 | some false,.vec n _ _=>.val (.int .i64 n)
 | some false,.ms _ _ n _ _=>.val (.int .i64 n)
 | some false,.ah=>.val (.int .i64 0)
 | _,_=>.bad
theorem u5 {P:Program} {t:TypeId} {b:Bool} (h:MV P t=some b):(b=true/\P.underlying t=some .string)\/(b=false/\∃ e,P.underlying t=some (.slice e)):=by
 unfold MV at h
 split at h
 . rename_i e; simp at h; exact .inl ⟨h,e⟩
 . rename_i e' e; simp at h; exact .inr ⟨h,_,e⟩
 . cases h
theorem PA (h:bo g U w) {t ty:TypeId} {x:AV} {v:Value} (hx:az g x v):aD.Fits C g U (Iu C.P t x U) ((do let r <- Builtin.len_ #[t] ty #[v]; pure (Next.value r):Sem Next).run C.P w):=by
 unfold Iu
 split
 . rename_i s Ia
   have hu:C.P.underlying t=some .string:=by rcases u5 Ia with ⟨_,h⟩ | ⟨h,_⟩ <;> first | exact h | cases h
   simp only [az] at hx; subst hx
   have eP:(ByteArray.mk s.toArray).size=s.length:=by simp [ByteArray.size]
   simp [Builtin.len_,run_underlying hu,goInt,eP]
   exact a8 h (by simp only [az])
 . rename_i Ia
   obtain ⟨e0,hu⟩:∃ e,C.P.underlying t=some (.slice e):=by rcases u5 Ia with ⟨h,_⟩ | ⟨_,h⟩ <;> first | exact h | cases h
   simp only [az] at hx
   obtain ⟨_,_,_,_,rfl,_⟩:=hx
   simp [Builtin.len_,run_underlying hu,goInt]
   exact a8 h (by simp only [az])
 . rename_i Ia
   obtain ⟨e0,hu⟩:∃ e,C.P.underlying t=some (.slice e):=by rcases u5 Ia with ⟨h,_⟩ | ⟨_,h⟩ <;> first | exact h | cases h
   simp only [az] at hx
   obtain ⟨_,_,_,rfl,_⟩:=hx
   simp [Builtin.len_,run_underlying hu,goInt]
   exact a8 h (by simp only [az])
 . rename_i Ia
   obtain ⟨e0,hu⟩:∃ e,C.P.underlying t=some (.slice e):=by rcases u5 Ia with ⟨h,_⟩ | ⟨_,h⟩ <;> first | exact h | cases h
   simp only [az] at hx; subst hx
   simp [Builtin.len_,run_underlying hu,goInt]
   exact a8 h (by simp only [az])
 . trivial
def zG (x y:AV):aD :=
 match x,y with
 | .int k a,.int k' b=>if k=k' then .val (.int k (if b < a then b else a)) else .bad
 | _,_=>.bad
def B5 (x y:AV):aD :=
 match x,y with
 | .int k a,.int k' b=>if k=k' then .val (.int k (if b > a then b else a)) else .bad
 | _,_=>.bad
theorem PE (h:bo g U w) {ts:Array TypeId} {ty:TypeId} {x y:AV} {v u:Value} (hx:az g x v) (hy:az g y u):aD.Fits C g U (B5 x y) ((do let r <- Builtin.max_ ts ty #[v,u]; pure (Next.value r):Sem Next).run C.P w):=by
 unfold B5
 split
 . split
   . rename_i e; subst e
     simp only [az] at hx hy; subst hx hy
     simp [Builtin.max_,Builtin.max2]
     exact a8 h (by simp only [az])
   . trivial
 . trivial
theorem PF (h:bo g U w) {ts:Array TypeId} {ty:TypeId} {x y:AV} {v u:Value} (hx:az g x v) (hy:az g y u):aD.Fits C g U (zG x y) ((do let r <- Builtin.min_ ts ty #[v,u]; pure (Next.value r):Sem Next).run C.P w):=by
 unfold zG
 split
 . split
   . rename_i e; subst e
     simp only [az] at hx hy; subst hx hy
     simp [Builtin.min_,Builtin.min2]
     exact a8 h (by simp only [az])
   . trivial
 . trivial
end
end Go.Rip
namespace Go.Rip
open Go.RowKit
section
variable {C:cQ} {g:Gh} {U:St} {w:World}
def gu (place:Nat->Option (Nat × Nat)):List (Nat × AV)->List AV->(List AV->aD)->aD
 | [],z,k=>k z
 | (i,x)::rest,z,k=>match place i with
   | some (off,size)=>.cond (x.dc=true/\(au x).length=size/\off+size <= z.length) (gu place rest (ay z off (au x)) k)
   | none=>.bad
theorem zk (off:Nat):∀ (l:List Value) (j:Nat) (cs:Array Value),off+j+l.length <= cs.size ->
 ((l.zipIdx j).foldl (fun (cs:Array Value) (p:Value × Nat)=>cs.setIfInBounds (off+p.2) p.1) cs).toList=cs.toList.take (off+j)++l++cs.toList.drop (off+j+l.length)
 | [],j,cs,_=>by simp
 | v::l,j,cs,hle=>by
   simp only [List.zipIdx_cons,List.foldl_cons]
   simp only [gU] at hle
   rw [zk off l (j+1) _ (by simp; omega)]
   have hs:=list_seg_step cs.toList (off+j) v l (by simpa using hle)
   rw [Array.toList_setIfInBounds]
   rw [show off+(j+1)=off+j+1 from rfl]
   exact hs
theorem uW {place:Nat->Option (Nat × Nat)} {k:List AV->aD} {kk:Array Value->Sem Value} {S:String}
 (hk:∀ (z:List AV) (cs:Array Value),aA g z cs.toList->(∀ u ∈ cs.toList,u.oneCell'=true)->aD.Fits C g U (k z) ((do let r <- kk cs; pure (Next.value r):Sem Next).run C.P w)) :
 ∀ (parts:List (Nat × AV)) (vs:List (Nat × Value)) (z:List AV) (cs:Array Value),vs.length=parts.length->(∀ (i:Nat) (p:Nat × AV) (q:Nat × Value),parts[i]?=some p->vs[i]?=some q->p.1=q.1/\az g p.2 q.2) ->
  aA g z cs.toList->(∀ u ∈ cs.toList,u.oneCell'=true) ->
  aD.Fits C g U (gu place parts z k) ((do let r <- (match Instr.fill place cs vs with | some CF=>kk CF | none=>stuck S); pure (Next.value r):Sem Next).run C.P w)
 | [],[],z,cs,_,_,hz,h1=>by
   simp only [gu,Instr.fill]
   exact hk z cs hz h1
 | [],_::_,_,_,h,_,_,_=>by simp at h
 | _::_,[],_,_,h,_,_,_=>by simp at h
 | (i,x)::parts,(j,v)::vs,z,cs,hl,hp,hz,h1=>by
   obtain ⟨rfl,hx⟩:=hp 0 _ _ rfl rfl
   dsimp only at hx ⊢
   simp only [gu]
   cases mZ:place i with
   | none=>trivial
   | some os =>
     obtain ⟨off,size⟩:=os
     rintro ⟨a1,a2,a3⟩
     obtain ⟨wA,Be⟩:=za hx a1
     have hlen:=wA.length
     have Ic:=hz.length
     have zy:v.cells.size=size:=by rw [<- tm,hlen,a2]
     have hcz:off+v.cells.size <= cs.size:=by rw [zy,<- tm,Ic]; exact a3
     have e:(v.cells.zipIdx.foldl (fun (cs:Array Value) (p:Value × Nat)=>cs.setIfInBounds (off+p.2) p.1) cs).toList=cs.toList.take off++v.cells.toList++cs.toList.drop (off+v.cells.toList.length):=by
      rw [<- Array.foldl_toList,Array.toList_zipIdx]
      have:=zk off v.cells.toList 0 cs (by simpa using hcz)
      simpa using this
     have adz:(v.cells.size ≠ size || off+v.cells.size > cs.size)=false:=by simp [zy]; omega
     simp only [Instr.fill,mZ]
     rw [if_neg (by rw [adz]; simp)]
     refine uW hk parts vs _ _ (by simpa using hl) (fun i p q h2 h3=>hp (i+1) p q (by simpa using h2) (by simpa using h3)) ?_ ?_
     . show aA g (ay z off (au x)) (v.cells.zipIdx.foldl (fun (cs:Array Value) (p:Value × Nat)=>cs.setIfInBounds (off+p.2) p.1) cs).toList
       rw [e]
       unfold ay
       rw [hlen]
       exact ((hz.take _).append wA).append (hz.drop _)
     . show ∀ u ∈ (v.cells.zipIdx.foldl (fun (cs:Array Value) (p:Value × Nat)=>cs.setIfInBounds (off+p.2) p.1) cs).toList,u.oneCell'=true
       rw [e]
       intro u hu
       simp only [fS] at hu
       rcases hu with (hu | hu) | hu
       . exact h1 u (List.mem_of_mem_take hu)
       . exact Be u hu
       . exact h1 u (List.mem_of_mem_drop hu)
def mY (C:cQ) (ρ:Env) (parts:Array (Nat × Operand)):List (Nat × AV):=parts.toList.map fun p=>(p.1,ρ.ev C p.2)
def Hg (P:Program) (t:TypeId) (parts:List (Nat × AV)):aD :=
 match AO P t,qp P t with
 | some pl,some z=>gu (fun i=>pl[i]?) parts z fun z=>.val (.agg z)
 | none,some z=>match vD P t with
   | some (_,_,sz)=>gu (fun i=>some (i * sz,sz)) parts z fun z=>.val (.agg z)
   | none=>.bad
 | _,_=>.bad
theorem Jo {P:Program} {t:TypeId} {pl:List (Nat × Nat)} (h:AO P t=some pl):∃ fs:Array Field,P.underlying t=some (.struct fs)/\pl=fs.toList.map (fun f=>(f.offset,P.cellsOf f.type)) /\
 (fs.mapM (fun f=>do pure (f.offset,<- sizeOf f.type):Field->Sem (Nat × Nat))).run P w=.ok pl.toArray w:=by
 unfold AO at h
 split at h
 . rename_i fs hu
   split at h
   . rename_i cm
     simp only [ja] at h
     refine ⟨fs,hu,h.symm,?_⟩
     rw [Array.mapM_eq_mapM_toList]
     rw [Array.all_eq_true_iff_forall_mem] at cm
     have key:∀ l:List Field,(∀ f ∈ l,(P.info? f.type).isSome=true)->(l.mapM (fun f=>do pure (f.offset,<- sizeOf f.type):Field->Sem (Nat × Nat))).run P w=.ok (l.map fun f=>(f.offset,P.cellsOf f.type)) w:=by
      intro l
      induction l with
      | nil=>intro _; simp
      | cons f l ih =>
        intro hf
        obtain ⟨i,hi⟩:=Option.isSome_iff_exists.1 (hf f (by simp))
        have ih':=ih fun x hx=>hf x (by simp [hx])
        have hc:P.cellsOf f.type=i.size:=by simp [Program.cellsOf,hi]
        simp only [List.mapM_cons,cr,fe hi,cJ,cM,ih',eC,hc]
     have:=key fs.toList (fun f hf=>cm f (by simpa using hf))
     simp only [Sem.run_map,this,cJ,h]
   . cases h
 . cases h
theorem JJ (h:bo g U w) {t:TypeId} {parts:List (Nat × AV)} {vs:Array (Nat × Value)} (hl:vs.size=parts.length) (hp:∀ (i:Nat) (p:Nat × AV) (q:Nat × Value),parts[i]?=some p->vs[i]?=some q->p.1=q.1/\az g p.2 q.2) :
 aD.Fits C g U (Hg C.P t parts) ((do let r <- Instr.build t vs; pure (Next.value r):Sem Next).run C.P w):=by
 unfold Hg
 split
 . rename_i pl z hs hz
   obtain ⟨fs,hu,mZ,iu⟩:=Jo (w:=w) hs
   obtain ⟨i,zv,hi,ur,hm⟩:=og hz
   obtain ⟨h1,h2⟩:=eZ (g:=g) hm
   have key:=uW (C:=C) (g:=g) (U:=U) (w:=w) (place:=fun i=>pl.toArray[i]?) (k:=fun z=>.val (.agg z)) (kk:=fun cs=>pure (.agg cs)) (S := "build: no such field, or a part of the wrong size") (fun z cs hz h1=>by
    simp only [cr,cM,cJ]
    exact a8 h (by simp only [az]; exact ⟨cs.toList,by simp,h1,hz⟩)) parts vs.toList z zv.cells (by simpa using hl) (fun i p q h1 h2=>hp i p q h1 (by simpa using h2)) h1 h2
   have e:(fun i:Nat=>pl.toArray[i]?)=fun i=>pl[i]?:=by funext i; simp
   rw [<- e]
   simp only [Instr.build,cr,gV hi ur,cJ,run_underlying hu,iu]
   cases hf:Instr.fill (fun i:Nat=>pl.toArray[i]?) zv.cells vs.toList with
   | none=>simp only [hf,cr,run_stuck,Result.andThen_halt] at key ⊢; exact key
   | some CF=>simp only [hf,cr,cM,cJ] at key ⊢; exact key
 . rename_i z hs hz
   split
   . rename_i n e sz ha
     obtain ⟨ie,hu,hie,eP⟩:=uQ ha
     obtain ⟨i,zv,hi,ur,hm⟩:=og hz
     obtain ⟨h1,h2⟩:=eZ (g:=g) hm
     have key:=uW (C:=C) (g:=g) (U:=U) (w:=w) (place:=fun i=>some (i * sz,sz)) (k:=fun z=>.val (.agg z)) (kk:=fun cs=>pure (.agg cs)) (S := "build: a part of the wrong size") (fun z cs hz h1=>by
      simp only [cr,cM,cJ]
      exact a8 h (by simp only [az]; exact ⟨cs.toList,by simp,h1,hz⟩)) parts vs.toList z zv.cells (by simpa using hl) (fun i p q h1 h2=>hp i p q h1 (by simpa using h2)) h1 h2
     simp only [Instr.build,cr,gV hi ur,cJ,run_underlying hu,fe hie,eP]
     cases hf:Instr.fill (fun i:Nat=>some (i * sz,sz)) zv.cells vs.toList with
     | none=>simp only [hf,cr,run_stuck,Result.andThen_halt] at key ⊢; exact key
     | some CF=>simp only [hf,cr,cM,cJ] at key ⊢; exact key
   . trivial
 . trivial
end
end Go.Rip
namespace Go.Rip
open Go.RowKit
section
variable {C:cQ} {g:Gh} {U:St} {w:World}
def bN:Nat->List AV->List AV
 | 0,_=>[]
 | n+1,z=>z++bN n z
theorem lT (z:List AV):∀ n,(bN n z).length=n * z.length
 | 0=>by simp [bN]
 | n+1=>by simp [bN,lT z n,Nat.add_mul]; omega
theorem tT {z:List AV} {zv:Array Value} (hz:aA g z zv.toList):∀ n,aA g (bN n z) ((Array.range (n * zv.size)).map (zv[· % zv.size]!)).toList:=fun n=>by
 have hl:z.length=zv.size:=by rw [<- hz.length]; simp
 refine aA.Dg (by simp [lT,hl]) fun i x v hx hv=>?_
 have key:∀ n i x,(bN n z)[i]?=some x->z[i % zv.size]?=some x:=fun n=>by
  induction n with
  | zero=>intro i x hx; simp [bN] at hx
  | succ n ih =>
    intro i x hx
    simp only [bN] at hx
    by_cases hi:i < z.length
    . rw [vR hi] at hx
      rw [Nat.mod_eq_of_lt (by omega)]; exact hx
    . rw [List.getElem?_append_right (by omega)] at hx
      have:=ih _ _ hx
      rw [hl,<- Nat.mod_eq_sub_mod (by omega)] at this
      exact this
 have l9:=key n i x hx
 obtain ⟨u,hu,hr⟩:=hz.get l9
 simp only [Array.toList_map,nr,pS] at hv
 obtain ⟨j,hj,rfl⟩:=hv
 have KS:j=i:=by
  rw [lA,Array.getElem?_range] at hj
  split at hj
  . simp at hj; exact hj.symm
  . cases hj
 subst KS
 have aQ:j % zv.size < zv.size:=by
  have:=(dx.1 hu).1
  simpa using this
 rw [getElem!_pos zv _ aQ]
 rw [lA,getElem?_pos zv _ aQ] at hu
 cases hu
 exact hr
def sF (P:Program) (t:TypeId) (n:Nat) (mu:Bool) (parts:List (Nat × AV)):aD :=
 match fH P t with
 | some (e,sz)=>match qp P e with
   | some z=>.cond (n * sz <= 16777216) (gu (fun i=>some (i * sz,sz)) parts (bN n z) fun cs=>.cond (cs.length=n * sz) (if mu then .pD n sz e none cs else .val (.vec n .full cs)))
   | none=>.bad
 | none=>.bad
theorem BS (h:bo g U w) {t:TypeId} {n:Nat} {mu:Bool} {parts:List (Nat × AV)} {vs:Array (Nat × Value)} (hl:vs.size=parts.length) (hp:∀ (i:Nat) (p:Nat × AV) (q:Nat × Value),parts[i]?=some p->vs[i]?=some q->p.1=q.1/\az g p.2 q.2) :
 aD.Fits C g U (sF C.P t n mu parts) ((do let r <- Instr.buildSlice t n vs; pure (Next.value r):Sem Next).run C.P w):=by
 unfold sF
 split
 . rename_i e sz hs
   split
   . rename_i z hz
     intro hn
     obtain ⟨i,zv,hu,hi,pb,wI,rfl,rq,_,h1⟩:=jc hs
     obtain ⟨i',zv',lr,ur,hm⟩:=og hz
     rw [hi] at lr; cases lr
     rw [pb] at ur; cases ur
     obtain ⟨h1,h2⟩:=eZ (g:=g) hm
     have HW:¬ (n * i.size > 2 ^ 24):=by omega
     have hzc:=tT (g:=g) h1 n
     have key:=uW (C:=C) (g:=g) (U:=U) (w:=w) (place:=fun j=>some (j * i.size,i.size)) (k:=fun cs=>.cond (cs.length=n * i.size) (if mu then .pD n i.size e none cs else .val (.vec n .full cs)))
      (kk:=fun cs=>do pure (.slice (some (<- newRow e cs)) n n)) (S := "buildSlice: a part of the wrong size") (fun z cs hz wA=>by
      intro hlen
      have ui:cs.size=n * i.size:=by rw [<- tm,hz.length,hlen]
      have Fj:n <= maxLen:=by
       have:n <= n * i.size:=Nat.le_mul_of_pos_right _ rq
       unfold maxLen; omega
      simp only [newRow,cr,cM,run_newObj,cJ]
      split
      . have:=rk (C:=C) (del:=none) (e:=e) (sz:=i.size) (n:=n) (c:=n) h (vs:=cs.toList) (rest:=[]) hz wA (by simp) (by simp [ui]) (cX _) Fj
        simpa using this
      . obtain ⟨g',hle,oK,_,_,eO⟩:=h.PJ e cs cs.toList [] (by simp) wA
        refine ⟨_,_,g',.inl rfl,hle,eO,?_⟩
        simp only [az]
        exact ⟨w.heap.size,0,n,cs.toList,rfl,cX _,Fj,rfl,oK,hz.mono hle⟩) parts vs.toList (bN n z) ((Array.range (n * zv.cells.size)).map (zv.cells[· % zv.cells.size]!)) (by simpa using hl) (fun i p q h1 h2=>hp i p q h1 (by simpa using h2)) hzc (by
        intro u hu
        simp only [Array.toList_map,List.mem_map] at hu
        obtain ⟨j,_,rfl⟩:=hu
        have aQ:j % zv.cells.size < zv.cells.size:=Nat.mod_lt _ (by omega)
        rw [getElem!_pos zv.cells _ aQ]
        exact h2 _ (by simp))
     simp only [Instr.buildSlice,cr,run_underlying hu,fe hi,cJ,if_neg HW,fD,gV hi pb,cM]
     by_cases h0:n * i.size=0
     . have CX:n=0:=by
        rcases Nat.mul_eq_zero.1 h0 with h | h
        . exact h
        . omega
       subst CX
       simp only [Nat.zero_mul,if_true,cJ] at key ⊢
       have e1:(Array.range 0).map ((#[]:Array Value)[· % (#[]:Array Value).size]!)=(Array.range 0).map (zv.cells[· % zv.cells.size]!):=by simp
       rw [e1]
       cases hf:Instr.fill (fun j=>some (j * i.size,i.size)) ((Array.range 0).map (zv.cells[· % zv.cells.size]!)) vs.toList with
       | none=>simp only [hf,cr,run_stuck,Result.andThen_halt] at key ⊢; exact key
       | some CF=>simp only [hf,cr,cM,cJ] at key ⊢; exact key
     . simp only [if_neg h0,cJ]
       rw [wI] at key ⊢
       cases hf:Instr.fill (fun j=>some (j * i.size,i.size)) ((Array.range (n * i.size)).map (zv.cells[· % i.size]!)) vs.toList with
       | none=>simp only [hf,cr,run_stuck,Result.andThen_halt] at key ⊢; exact key
       | some CF=>simp only [hf,cr,cM,cJ] at key ⊢; exact key
   . trivial
 . trivial
def rA (P:Program) (t:TypeId):Option (FK × TypeId) :=
 match P.underlying t with
 | some (.map k e)=>match P.underlying k with
   | some (.int _)=>some (.i,e)
   | some .string=>some (.s,e)
   | _=>none
 | _=>none
def iw:FK->AV->AV->Option Bool
 | .i,.int k a,.int k' b=>if k=k' then some (a == b) else none
 | .s,.str a,.str b=>some (a == b)
 | _,_,_=>none
def qk:FK->AV->Bool
 | .i,.int _ _=>true
 | .s,.str _=>true
 | _,_=>false
def lY (fk:FK) (k:AV):List AV->Nat->Option (Option Nat)
 | [],_=>some none
 | y::ys,i=>match iw fk k y with
   | none=>none
   | some b=>if b=true then some (some i) else lY fk k ys (i+1)
def gS (k v:AV):List AV->List AV->List AV × List AV
 | [],_=>([k],[v])
 | y::ys,ws=>if jS k y=true then (k::y::ys,v::ws) else
   match ws with
   | []=>([k],[v])
   | x::xs=>(y::(gS k v ys xs).1,x::(gS k v ys xs).2)
def rB (P:Program) (t:TypeId) (m k v:AV) (U:St):aD :=
 match rA P t,m with
 | some (fk,_),.mp id=>match U.mp id with
   | some (ks,vs)=>match lY fk k ks 0,qk fk k with
     | some none,true=>.iH (.aH []) id (.mp (gS k v ks vs).1 (gS k v ks vs).2)
     | some (some i),true=>.iH (.aH []) id (.mp ks (vs.set i v))
     | _,_=>.bad
   | none=>.bad
 | _,_=>.bad
def kB (U:St):AV->Option (List AV × List AV)
 | .mp id=>U.mp id
 | .fY ks vs=>some (ks,vs)
 | .jE=>some ([],[])
 | _=>none
def nT (fk:FK) (k:AV) (zf:AV) (ok:Bool):List AV->List AV->aD
 | y::ys,v::vs=>match iw fk k y with
   | none=>.bad
   | some b=>if b=true then .val (if ok then .aH [v,.bool true] else v) else nT fk k zf ok ys vs
 | _,_=>.val (if ok then .aH [zf,.bool false] else zf)
def zeroV (P:Program) (t:TypeId):Option AV:=((P.info? t).bind (·.zero)).map EW
def wP (P:Program) (t:TypeId) (m k:AV) (ok:Bool) (U:St):aD :=
 match rA P t,kB U m with
 | some (fk,e),some (ks,vs)=>match zeroV P e,qk fk k with
   | some z,true=>nT fk k z ok ks vs
   | _,_=>.bad
 | _,_=>.bad
theorem zF {P:Program} {t e:TypeId} {fk:FK} (h:rA P t=some (fk,e)):∃ k,P.underlying t=some (.map k e)/\((fk=.i/\∃ q,P.underlying k=some (.int q))\/(fk=.s/\P.underlying k=some .string)):=by
 unfold rA at h
 split at h
 . rename_i k e' hu
   split at h
   . rename_i q hq
     simp only [ja,jA] at h
     obtain ⟨rfl,rfl⟩:=h
     exact ⟨k,hu,.inl ⟨rfl,q,hq⟩⟩
   . rename_i hq
     simp only [ja,jA] at h
     obtain ⟨rfl,rfl⟩:=h
     exact ⟨k,hu,.inr ⟨rfl,hq⟩⟩
   . cases h
 . cases h
theorem tN {P:Program} {k:TypeId} {fk:FK} {d:TypeDesc} (hd:P.underlying k=some d) (hk:(fk=.i/\∃ q,d=.int q)\/(fk=.s/\d=.string)) {x y:AV} {u v:Value} {b:Bool} (hx:az g x u) (hy:az g y v) (h:iw fk x y=some b) :
 Instr.sameNow d u v=some b:=by
 rcases hk with ⟨rfl,q,rfl⟩ | ⟨rfl,rfl⟩ <;> cases x <;> cases y <;> simp only [iw,reduceCtorEq] at h
 . split at h
   . rename_i e; subst e
     simp only [az] at hx hy; subst hx hy
     simp at h; subst h
     simp [Instr.sameNow]
   . cases h
 . simp only [az] at hx hy; subst hx hy
   simp only [ja] at h; subst h
   simp only [Instr.sameNow,beq_toListBytes,ByteArray.toList_eq,List.toList_toArray]
theorem findNow_spec {d:TypeDesc} {u:Value}:∀ (es:List MapEntry) (i:Nat),(∀ e ∈ es,∃ b,Instr.sameNow d u e.key=some b) ->
 ((∀ e ∈ es,Instr.sameNow d u e.key=some false)/\Instr.findNow d u es i=some none) \/
 (∃ j e,es[j]?=some e/\Instr.sameNow d u e.key=some true/\Instr.findNow d u es i=some (some (i+j,e.val)))
 | [],i,_=>.inl ⟨by simp,by simp [Instr.findNow]⟩
 | e::es,i,h=>by
   obtain ⟨b,hb⟩:=h e (by simp)
   cases b
   . rcases findNow_spec es (i+1) (fun x hx=>h x (by simp [hx])) with ⟨h1,h2⟩ | ⟨j,e',h1,h2,h3⟩
     . refine .inl ⟨fun x hx=>?_,by simp [Instr.findNow,hb,h2]⟩
       rcases cD.1 hx with rfl | hx
       . exact hb
       . exact h1 x hx
     . exact .inr ⟨j+1,e',by simpa using h1,h2,by simp [Instr.findNow,hb,h3]; omega⟩
   . exact .inr ⟨0,e,by simp,hb,by simp [Instr.findNow,hb]⟩
theorem vK {fk:FK} {k y:AV} (h:iw fk k y=some true):k=y:=by
 cases fk <;> cases k <;> cases y <;> simp only [iw,reduceCtorEq] at h
 . split at h
   . rename_i e; subst e; simp at h; rw [h]
   . cases h
 . simp at h; rw [h]
theorem MR (k:AV):jS k k=false:=by
 cases k <;> simp [jS]
theorem J5 {a b c:AV} (h:jS a b=true) (h':jS b c=true):jS a c=true:=by
 cases a <;> cases b <;> simp only [jS,bU] at h <;> cases c <;> simp only [jS,bU,bX,dS] at h h' ⊢
 . exact ⟨h.1.trans h'.1,by omega⟩
 . exact List.lt_trans h h'
theorem Uk {fk:FK} {k y:AV} (h:iw fk k y=some false):jS k y=true\/jS y k=true:=by
 cases fk <;> cases k <;> cases y <;> simp only [iw,reduceCtorEq] at h
 . split at h
   . rename_i e; subst e; simp at h; simp [jS]; omega
   . cases h
 . simp at h
   simp only [jS,dS]
   rcases Classical.em ((_:List UInt8) < _) with hl | hl
   . exact .inl hl
   . refine .inr ?_
     rcases Classical.em ((_:List UInt8) < _) with tz | tz
     . exact tz
     . exact absurd (List.le_antisymm (List.not_lt.1 tz) (List.not_lt.1 hl)) h
theorem C4 {fk:FK} {k y z:AV} (h:iw fk k y=some true) (hz:jS y z=true\/jS z y=true):∃ b,iw fk k z=some b:=by
 have:=vK h
 subst this
 cases fk <;> cases k <;> cases z <;> simp [iw,jS] at h hz ⊢
 rcases hz with ⟨e,_⟩ | ⟨e,_⟩
 . exact e
 . exact e.symm
theorem xu {fk:FK} {k:AV}:∀ {ks:List AV} {s:Nat} {r:Option Nat},lY fk k ks s=some r ->
 (r=none/\∀ y ∈ ks,iw fk k y=some false)\/(∃ i,r=some (s+i)/\∃ y,ks[i]?=some y/\iw fk k y=some true)
 | [],s,r,h=>by simp only [lY,ja] at h; exact .inl ⟨h.symm,by simp⟩
 | y::ys,s,r,h=>by
   simp only [lY] at h
   split at h
   . cases h
   . rename_i b hb
     cases b
     . simp only [bU,if_false] at h
       rcases xu h with ⟨h1,h2⟩ | ⟨i,h1,z,h2,h3⟩
       . refine .inl ⟨h1,fun z hz=>?_⟩
         rcases cD.1 hz with rfl | hz
         . exact hb
         . exact h2 z hz
       . exact .inr ⟨i+1,by rw [h1]; congr 1; omega,z,by simpa using h2,h3⟩
     . simp only [if_true,ja] at h
       exact .inr ⟨0,by rw [<- h]; rfl,y,by simp,hb⟩
theorem NA {ks:List AV} (h:pW ks) {i j:Nat} {y:AV} (hi:ks[i]?=some y) (hj:ks[j]?=some y):i=j:=by
 have key:∀ i j,i < j->ks[i]?=some y->ks[j]?=some y->False:=fun i j fP hi hj=>by
  obtain ⟨h1,h2⟩:=dx.1 hi
  obtain ⟨h3,h4⟩:=dx.1 hj
  have:=List.pairwise_iff_getElem.1 h i j h1 h3 fP
  rw [h2,h4,MR] at this; cases this
 rcases Nat.lt_trichotomy i j with h | h | h
 . exact (key i j h hi hj).elim
 . exact h
 . exact (key j i h hj hi).elim
theorem BX {P:Program} {kt:TypeId} {fk:FK} {d:TypeDesc} (hd:P.underlying kt=some d) (hk:(fk=.i/\∃ q,d=.int q)\/(fk=.s/\d=.string)) {x:AV} {u:Value} (hx:az g x u)
 {ks:List AV} {l es:List MapEntry} (hp:l.Perm es) (hs:pW ks) (hr:aA g ks (l.map (·.key))) {r:Option Nat} (h:lY fk x ks 0=some r) :
 (r=none/\(∀ y ∈ ks,iw fk x y=some false)/\∀ i,Instr.findNow d u es i=some none) \/
 (∃ i j e,r=some i/\ks[i]?=some x/\l[i]?=some e/\es[j]?=some e/\az g x e.key/\∀ s,Instr.findNow d u es s=some (some (s+j,e.val))):=by
 have mem:∀ e ∈ es,∃ i y,ks[i]?=some y/\l[i]?=some e/\az g y e.key:=fun e he=>by
  obtain ⟨i,hi⟩:=List.getElem?_of_mem (hp.mem_iff.2 he)
  have aQ:i < ks.length:=by
   have h1:=(dx.1 hi).1
   have:=hr.length
   simp at this; omega
  obtain ⟨v,hv,Pb⟩:=hr.get (i:=i) (x:=ks[i]) (pk aQ)
  rw [nr,hi] at hv
  simp at hv
  subst hv
  exact ⟨i,ks[i],pk aQ,hi,Pb⟩
 rcases xu h with ⟨rfl,h1⟩ | ⟨i,rfl,y,h1,h2⟩
 . refine .inl ⟨rfl,h1,fun s=>?_⟩
   have hf:∀ e ∈ es,Instr.sameNow d u e.key=some false:=fun e he=>by
    obtain ⟨i,y,hy,_,Pe⟩:=mem e he
    exact tN (P:=P) hd hk hx Pe (h1 y (gh hy))
   rcases findNow_spec es s (fun e he=>⟨_,hf e he⟩) with ⟨_,h2⟩ | ⟨j,e,q1,q2,_⟩
   . exact h2
   . rw [hf e (gh q1)] at q2; cases q2
 . have Bq:=vK h2
   subst Bq
   have all:∀ z ∈ ks,∃ b,iw fk x z=some b:=fun z hz=>by
    obtain ⟨j,hj⟩:=List.getElem?_of_mem hz
    rcases Nat.lt_trichotomy i j with fP | fP | fP
    . obtain ⟨a1,a2⟩:=dx.1 h1
      obtain ⟨a3,a4⟩:=dx.1 hj
      have:=List.pairwise_iff_getElem.1 hs i j a1 a3 fP
      rw [a2,a4] at this
      exact C4 h2 (.inl this)
    . subst fP; rw [h1] at hj; cases hj; exact ⟨_,h2⟩
    . obtain ⟨a1,a2⟩:=dx.1 h1
      obtain ⟨a3,a4⟩:=dx.1 hj
      have:=List.pairwise_iff_getElem.1 hs j i a3 a1 fP
      rw [a2,a4] at this
      exact C4 h2 (.inr this)
   have same:∀ e ∈ es,∃ b,Instr.sameNow d u e.key=some b:=fun e he=>by
    obtain ⟨i,y,hy,_,Pe⟩:=mem e he
    obtain ⟨b,hb⟩:=all y (gh hy)
    exact ⟨b,tN (P:=P) hd hk hx Pe hb⟩
   have HR:∃ e0,l[i]?=some e0/\az g x e0.key:=by
    obtain ⟨v,hv,Pb⟩:=hr.get h1
    rw [nr,pS] at hv
    obtain ⟨e0,h3,rfl⟩:=hv
    exact ⟨e0,h3,Pb⟩
   obtain ⟨e0,u1,aaZ⟩:=HR
   have h0s:Instr.sameNow d u e0.key=some true:=tN (P:=P) hd hk hx aaZ h2
   have h0m:e0 ∈ es:=hp.mem_iff.1 (gh u1)
   have pick:∀ s,∃ j,es[j]?=some e0/\Instr.findNow d u es s=some (some (s+j,e0.val)):=fun s=>by
    rcases findNow_spec es s same with ⟨q1,_⟩ | ⟨j,e,q1,q2,q3⟩
    . rw [q1 e0 h0m] at h0s; cases h0s
    . obtain ⟨i',y,hy,u3,Pe⟩:=mem e (gh q1)
      obtain ⟨b,hb⟩:=all y (gh hy)
      have K3:=tN (P:=P) hd hk hx Pe hb
      rw [q2] at K3
      simp only [ja] at K3
      subst K3
      have Bq:=vK hb
      subst Bq
      have hii:=NA hs h1 hy
      subst hii
      rw [u1] at u3; cases u3
      exact ⟨j,q1,q3⟩
   obtain ⟨j,hj,hjf⟩:=pick 0
   refine .inr ⟨i,j,e0,by rw [cU],h1,u1,hj,aaZ,fun s=>?_⟩
   have shift:∀ (es:List MapEntry) (a b:Nat) j v,Instr.findNow d u es a=some (some (a+j,v))->Instr.findNow d u es b=some (some (b+j,v)):=fun es=>by
    induction es with
    | nil=>intro a b j v h; simp [Instr.findNow] at h
    | cons e es ih =>
      intro a b j v h
      simp only [Instr.findNow] at h ⊢
      cases yM:Instr.sameNow d u e.key with
      | none=>rw [yM] at h; cases h
      | some t =>
        rw [yM] at h
        cases t
        . dsimp only at h ⊢
          have hle:∀ (es:List MapEntry) (a:Nat) r v,Instr.findNow d u es a=some (some (r,v))->a <= r:=fun es=>by
           induction es with
           | nil=>intro a r v h; simp [Instr.findNow] at h
           | cons e es ih =>
             intro a r v h
             simp only [Instr.findNow] at h
             cases yM:Instr.sameNow d u e.key with
             | none=>rw [yM] at h; cases h
             | some t =>
               rw [yM] at h
               cases t
               . have:=ih _ _ _ h; omega
               . simp at h; omega
          have h1:=hle _ _ _ _ h
          have:=ih (a+1) (b+1) (j - 1) v (by rw [h]; congr 3; omega)
          rw [this]; congr 3; omega
        . simp at h ⊢; obtain ⟨h1,h2⟩:=h; exact ⟨by omega,h2⟩
   exact shift es 0 s j _ hjf
theorem UE {α:Type} {l m:List α} (h:l.Perm m) {i j:Nat} {e:α} (hi:l[i]?=some e) (hj:m[j]?=some e) (e':α):(l.set i e').Perm (m.set j e'):=by
 obtain ⟨h1,h2⟩:=dx.1 hi
 obtain ⟨h3,h4⟩:=dx.1 hj
 have el:l=l.take i++e::l.drop (i+1):=by
  conv=>lhs; rw [<- List.take_append_drop i l,gT h1,h2]
 have em:m=m.take j++e::m.drop (j+1):=by
  conv=>lhs; rw [<- List.take_append_drop j m,gT h3,h4]
 rw [List.set_eq_take_append_cons_drop,if_pos h1,List.set_eq_take_append_cons_drop,if_pos h3]
 have hp:(l.take i++e::l.drop (i+1)).Perm (m.take j++e::m.drop (j+1)):=by rw [<- el,<- em]; exact h
 have h5:=(List.perm_middle.symm.trans hp).trans List.perm_middle
 have h6:=List.Perm.cons_inv h5
 exact (List.perm_middle.trans (h6.cons e')).trans List.perm_middle.symm
theorem run_checkKey {P:Program} {k:TypeId} {d:TypeDesc} {em:Bool} (hd:P.underlying k=some d) (hk:(∃ q,d=.int q)\/d=.string) (n:Nat) (v:Value):(Instr.checkKey em (n+1) k v).run P w=.ok () w:=by
 rcases hk with ⟨q,rfl⟩ | rfl <;> simp [Instr.checkKey,run_underlying hd]
theorem aA.set:∀ {l:List AV} {vs:List Value} {x:AV} {u:Value} (i:Nat),aA g l vs->az g x u->aA g (l.set i x) (vs.set i u)
 | [],_,_,_,_,h,_=>by simp only [aA] at h; subst h; simp [aA]
 | y::ys,_,x,u,0,h,hx=>by
   simp only [aA] at h
   obtain ⟨v,vs,rfl,h1,h2⟩:=h
   simp only [List.set_cons_zero,aA]
   exact ⟨u,vs,rfl,hx,h2⟩
 | y::ys,_,x,u,i+1,h,hx=>by
   simp only [aA] at h
   obtain ⟨v,vs,rfl,h1,h2⟩:=h
   simp only [List.set_cons_succ,aA]
   exact ⟨v,_,rfl,h1,aA.set i h2 hx⟩
theorem Ij {k v:AV} {e:MapEntry} (hk:az g k e.key) (hv:az g v e.val):∀ (ks vs:List AV) (l:List MapEntry),aA g ks (l.map (·.key))->aA g vs (l.map (·.val)) ->
 ∃ l':List MapEntry,l'.Perm (e::l)/\aA g (gS k v ks vs).1 (l'.map (·.key))/\aA g (gS k v ks vs).2 (l'.map (·.val))
 | [],vs,l,h1,h2=>by
   simp only [aA,List.map_eq_nil_iff] at h1
   subst h1
   exact ⟨[e],List.Perm.refl _,by simp only [gS,eC,nu,aA]; exact ⟨_,_,rfl,hk,rfl⟩,by simp only [gS,eC,nu,aA]; exact ⟨_,_,rfl,hv,rfl⟩⟩
 | y::ks,vs,[],h1,h2=>by simp [aA] at h1
 | y::ks,[],f::l,h1,h2=>by simp [aA] at h2
 | y::ks,x::vs,f::l,h1,h2=>by
   simp only [gS]
   by_cases aQ:jS k y=true
   . rw [if_pos aQ]
     exact ⟨e::f::l,List.Perm.refl _,by rw [eC]; simp only [aA] at h1 ⊢; exact ⟨_,_,rfl,hk,h1⟩,by rw [eC]; simp only [aA] at h2 ⊢; exact ⟨_,_,rfl,hv,h2⟩⟩
   . rw [if_neg aQ]
     simp only [aA,eC,List.cons.injEq] at h1 h2
     obtain ⟨_,_,⟨rfl,rfl⟩,hy,h1⟩:=h1
     obtain ⟨_,_,⟨rfl,rfl⟩,hx,h2⟩:=h2
     obtain ⟨l',h3,h4,h5⟩:=Ij hk hv ks vs l h1 h2
     exact ⟨f::l',((h3.cons f).trans (List.Perm.swap e f l)),by simp only [eC,aA]; exact ⟨_,_,rfl,hy,h4⟩,by simp only [eC,aA]; exact ⟨_,_,rfl,hx,h5⟩⟩
theorem xG {k v:AV}:∀ (ks vs:List AV) (z:AV),z ∈ (gS k v ks vs).1->z=k\/z ∈ ks
 | [],vs,z,h=>by simp [gS] at h; exact .inl h
 | y::ks,vs,z,h=>by
   simp only [gS] at h
   split at h
   . simpa using h
   . split at h
     . simp at h; exact .inl h
     . rename_i x xs
       simp only [cD] at h ⊢
       rcases h with h | h
       . exact .inr (.inl h)
       . rcases xG ks xs z h with h | h
         . exact .inl h
         . exact .inr (.inr h)
theorem Bs {k v:AV}:∀ (ks vs:List AV),pW ks->(∀ y ∈ ks,jS k y=true\/jS y k=true)->pW (gS k v ks vs).1
 | [],vs,h1,h2=>by simp [gS,pW]
 | y::ks,vs,h1,h2=>by
   unfold pW at h1 ⊢
   rw [List.pairwise_cons] at h1
   simp only [gS]
   split
   . rename_i aQ
     rw [List.pairwise_cons,List.pairwise_cons]
     refine ⟨fun z hz=>?_,h1⟩
     rcases cD.1 hz with rfl | hz
     . exact aQ
     . exact J5 aQ (h1.1 z hz)
   . rename_i aQ
     split
     . simp
     . rename_i x xs
       rw [List.pairwise_cons]
       refine ⟨fun z hz=>?_,Bs ks xs h1.2 fun z hz=>h2 z (by simp [hz])⟩
       rcases xG ks xs z hz with rfl | hz
       . rcases h2 y (by simp) with h | h
         . exact absurd h aQ
         . exact h
       . exact h1.1 z hz
theorem lf.push {es:Array MapEntry} {clock:Nat} (h:lf es clock) (k v:Value):lf (es.push ⟨k,v,clock⟩) (clock+1):=by
 obtain ⟨h1,h2⟩:=h
 refine ⟨?_,fun e he=>?_⟩
 . simp only [Array.toList_push,List.map_append,eC,nu]
   rw [List.nodup_append]
   refine ⟨h1,by simp,fun a ha b hb=>?_⟩
   simp at hb
   subst hb
   obtain ⟨e,he,rfl⟩:=List.mem_map.1 ha
   exact Nat.ne_of_lt (h2 e he)
 . simp only [Array.toList_push,fS,jz] at he
   rcases he with he | rfl
   . have:=h2 e he; omega
   . simp
theorem AW {es:Array MapEntry} {j:Nat} {e:MapEntry} (hj:es.toList[j]?=some e) (f:MapEntry->MapEntry):(es.modify j f).toList=es.toList.set j (f e):=by
 apply List.ext_getElem?
 intro i
 simp only [Array.toList_modify,List.getElem?_modify,List.getElem?_set]
 by_cases fP:j=i
 . subst fP
   have aQ:=(dx.1 hj).1
   simp only [if_true,hj,if_pos aQ]; rfl
 . simp only [if_neg fP]
   cases es.toList[i]? <;> rfl
theorem lf.modify {es wi:Array MapEntry} {clock:Nat} (h:lf es clock) {j:Nat} {e e':MapEntry} (hj:es.toList[j]?=some e) (hb:e'.born=e.born) (he:wi.toList=es.toList.set j e'):lf wi clock:=by
 have hm:wi.toList.map (·.born)=es.toList.map (·.born):=by
  rw [he,List.map_set,hb]
  apply List.ext_getElem?
  intro i
  rw [List.getElem?_set]
  split
  . rename_i fP
    subst fP
    rw [nr,hj]
    have aQ:=(dx.1 hj).1
    simp at aQ ⊢; exact aQ
  . rfl
 refine ⟨by rw [hm]; exact h.1,fun x hx=>?_⟩
 have:x.born ∈ wi.toList.map (·.born):=List.mem_map_of_mem hx
 rw [hm] at this
 obtain ⟨y,hy,hy2⟩:=List.mem_map.1 this
 rw [<- hy2]; exact h.2 y hy
theorem vd (h:bo g U w) {t:TypeId} {m k x:AV} {vm vk vx:Value} (hm:az g m vm) (hk:az g k vk) (hx:az g x vx) :
 aD.Fits C g U (rB C.P t m k x U) ((do Instr.mapUpdate t vm vk vx; pure Next.skip:Sem Next).run C.P w):=by
 unfold rB
 split
 . rename_i fk e id ht
   split
   . rename_i ks vs HU
     obtain ⟨kt,hu,hkt⟩:=zF ht
     obtain ⟨d,hd,HO⟩:∃ d,C.P.underlying kt=some d/\((fk=.i/\∃ q,d=.int q)\/(fk=.s/\d=.string)):=by
      rcases hkt with ⟨rfl,q,hq⟩ | ⟨rfl,hq⟩
      . exact ⟨_,hq,.inl ⟨rfl,q,rfl⟩⟩
      . exact ⟨_,hq,.inr ⟨rfl,rfl⟩⟩
     have TY:(∃ q,d=.int q)\/d=.string:=HO.imp (·.2) (·.2)
     simp only [az] at hm
     obtain ⟨r,hr,rfl⟩:=hm
     obtain ⟨r',es,clock,q1,q2,q3,qb,⟨l,q4,q5,q6,q7⟩,q8⟩:=h.mp id _ HU
     rw [hr] at q1; cases q1
     have tg:(getObj r).run C.P w=.ok (.map es clock) w:=by simp [getObj,Sem.run,q3]
     have OQ:=run_checkKey (P:=C.P) (w:=w) (em:=false) hd TY 9999 vk
     have D6:∀ o,(setObj r o).run C.P w=.ok () { w with heap:=w.heap.setIfInBounds r o }:=fun o=>by simp [setObj,Sem.run,q3]
     split
     . rename_i hf KU
       rcases BX (P:=C.P) hd HO hk q4 q5 q6 hf with ⟨_,ha,hn⟩ | ⟨i,_,_,he,_⟩
       . simp only [Instr.mapUpdate,cr,run_underlying hu,cJ,tg,OQ,Instr.findKey,run_underlying hd,hn,cM,D6]
         obtain ⟨l',p1,p2,p3⟩:=Ij (e:=⟨vk,vx,clock⟩) hk hx ks vs l q6 q7
         refine ⟨undef,_,g,.inr ⟨rfl,rfl⟩,Gh.Le.refl g,h.Ql HU (kv':=gS k x ks vs) hr q3 ⟨l',?_,?_,p2,p3⟩ (qb.push vk vx),by simp only [az]; exact ⟨[],rfl,by simp [aA]⟩⟩
         . rw [Array.toList_push]
           exact (p1.trans (q4.cons _)).trans (List.perm_append_singleton _ _).symm
         . exact Bs ks vs q5 fun y hy=>Uk (ha y hy)
       . cases he
     . rename_i i hf KU
       rcases BX (P:=C.P) hd HO hk q4 q5 q6 hf with ⟨he,_⟩ | ⟨i',j,e,he,aa7,HR,OS,VU,hn⟩
       . cases he
       . cases he
         have CX:=hn 0
         rw [cU] at CX
         have aQ:j < es.size:=by
          have:=(dx.1 OS).1
          simpa using this
         have ae9:es[j]?=some e:=by rw [<- lA]; exact OS
         have adM:Instr.sameBits 10000 e.key vk=true:=by
          rcases HO with ⟨rfl,_⟩ | ⟨rfl,_⟩ <;> cases k <;> simp only [qk,bU] at KU
          . simp only [az] at hk VU; rw [hk,VU]; simp [Instr.sameBits]
          . simp only [az] at hk VU; rw [hk,VU]; simp [Instr.sameBits,beq_toListBytes]
         have K3:(Instr.keyThatStays e.key vk).run C.P w=.ok vk w:=by simp [Instr.keyThatStays,adM]
         have afi:((es[j]?).map (·.key)).getD vk=e.key:=by rw [ae9]; rfl
         simp only [Instr.mapUpdate,cr,run_underlying hu,cJ,tg,OQ,Instr.findKey,run_underlying hd,CX,cM,D6,afi,K3]
         have aa9:=AW OS (fun e=>{ e with key:=vk,val:=vx })
         refine ⟨undef,_,g,.inr ⟨rfl,rfl⟩,Gh.Le.refl g,h.Ql HU (kv':=(ks,vs.set i x)) hr q3 ⟨l.set i { e with key:=vk,val:=vx },?_,q5,?_,?_⟩ (qb.modify (e':={ e with key:=vk,val:=vx }) OS rfl aa9),by simp only [az]; exact ⟨[],rfl,by simp [aA]⟩⟩
         . rw [aa9]; exact UE q4 HR OS _
         . rw [List.map_set]
           have:=q6.set i hk
           have e1:ks.set i k=ks:=by
            apply List.ext_getElem?
            intro a
            rw [List.getElem?_set]
            split
            . rename_i ha; subst ha
              split
              . exact aa7.symm
              . rename_i hn; exact absurd (dx.1 aa7).1 hn
            . rfl
           rw [e1] at this; exact this
         . rw [List.map_set]; exact q7.set i hx
     . trivial
   . trivial
 . trivial
theorem C8 {fk:FK} {k z:AV} {ok:Bool}:∀ (ks vs:List AV) (s:Nat),ks.length=vs.length->nT fk k z ok ks vs=(match lY fk k ks s with
 | none=>.bad
 | some none=>.val (if ok then .aH [z,.bool false] else z)
 | some (some i)=>.val (if ok then .aH [vs.getD (i - s) z,.bool true] else vs.getD (i - s) z))
 | [],[],s,_=>by simp [nT,lY]
 | [],_::_,s,h=>by simp at h
 | _::_,[],s,h=>by simp at h
 | y::ks,v::vs,s,h=>by
   simp only [nT,lY]
   cases hb:iw fk k y with
   | none=>rfl
   | some b =>
     cases b
     . simp only [bU,if_false]
       rw [C8 ks vs (s+1) (by simpa using h)]
       cases hf:lY fk k ks (s+1) with
       | none=>rfl
       | some r =>
         cases r with
         | none=>rfl
         | some i =>
           rcases xu hf with ⟨h1,_⟩ | ⟨i',h1,_⟩
           . cases h1
           . cases h1
             have e1:s+1+i' - (s+1)=i':=by omega
             have e2:s+1+i' - s=i'+1:=by omega
             simp only [e1,e2,List.getD_cons_succ]
     . simp only [if_true,Nat.sub_self,List.getD_cons_zero]
theorem IA (h:bo g U w) {t:TypeId} {m k:AV} {vm vk:Value} {ok:Bool} (hm:az g m vm) (hk:az g k vk) :
 aD.Fits C g U (wP C.P t m k ok U) ((do let r <- Instr.lookup t vm vk ok; pure (Next.value r):Sem Next).run C.P w):=by
 unfold wP
 split
 . rename_i fk e ks vs ht he
   split
   . rename_i z hz KU
     obtain ⟨kt,hu,hkt⟩:=zF ht
     obtain ⟨d,hd,HO⟩:∃ d,C.P.underlying kt=some d/\((fk=.i/\∃ q,d=.int q)\/(fk=.s/\d=.string)):=by
      rcases hkt with ⟨rfl,q,hq⟩ | ⟨rfl,hq⟩
      . exact ⟨_,hq,.inl ⟨rfl,q,rfl⟩⟩
      . exact ⟨_,hq,.inr ⟨rfl,rfl⟩⟩
     have TY:(∃ q,d=.int q)\/d=.string:=HO.imp (·.2) (·.2)
     obtain ⟨i,vz,hi,ur,Pg⟩:∃ i vz,C.P.info? e=some i/\i.zero=some vz/\EW vz=z:=by
      unfold zeroV at hz
      cases hi:C.P.info? e with
      | none=>simp [hi] at hz
      | some i =>
        cases pb:i.zero with
        | none=>simp [hi,pb] at hz
        | some vz=>simp [hi,pb] at hz; exact ⟨i,vz,rfl,pb,hz⟩
     have Ws:az g z vz:=by rw [<- Pg]; exact DW vz
     obtain ⟨es,zp,l,hp,afv,h1,h2⟩:∃ es:Array MapEntry,((vm=.map none/\es=#[])\/∃ r clock,vm=.map (some r)/\w.heap[r]?=some (Obj.map es clock))/\xj g ks vs es:=by
      cases m <;> simp only [kB,reduceCtorEq,ja,jA] at he
      . obtain ⟨rfl,rfl⟩:=he
        simp only [az] at hm; subst hm
        exact ⟨#[],.inl ⟨rfl,rfl⟩,[],List.Perm.refl _,by simp [pW],by simp [aA],by simp [aA]⟩
      . simp only [az] at hm
        obtain ⟨r,hr,rfl⟩:=hm
        obtain ⟨r',es,clock,q1,q2,q3,_,q4,_⟩:=h.mp _ _ he
        rw [hr] at q1; cases q1
        exact ⟨es,.inr ⟨r,clock,rfl,q3⟩,q4⟩
      . obtain ⟨rfl,rfl⟩:=he
        simp only [az] at hm
        obtain ⟨r,es,clock,l,rfl,hr,q0,q1,q2,q3⟩:=hm
        exact ⟨es,.inr ⟨r,clock,rfl,(h.ca r es clock hr).1⟩,l,q0,q1,q2,q3⟩
     have hlen:ks.length=vs.length:=by
      have a:=h1.length
      have b:=h2.length
      simp at a b; omega
     rw [C8 ks vs 0 hlen]
     cases hf:lY fk k ks 0 with
     | none=>trivial
     | some r =>
       have OQ:=run_checkKey (P:=C.P) (w:=w) (em:=es.isEmpty) hd TY 9999 vk
       have key:=BX (P:=C.P) hd HO hk hp afv h1 hf
       have fin:∀ q:Option (Nat × Value),Instr.findNow d vk es.toList 0=some q->(Instr.lookup t vm vk ok).run C.P w=(match q with
        | some (_,v)=>.ok (if ok then .tuple #[v,.bool true] else v) w
        | none=>.ok (if ok then .tuple #[vz,.bool false] else vz) w):=fun q hq=>by
        rcases zp with ⟨rfl,rfl⟩ | ⟨r,clock,rfl,hh⟩
        . simp only [Instr.lookup,cr,run_underlying hu,cJ,cM,OQ,Instr.findKey,run_underlying hd,hq]
          cases q with
          | none=>simp only [cM,cJ,cr,gV hi ur]
          | some p=>rfl
        . have tg:(getObj r).run C.P w=.ok (Obj.map es clock) w:=by simp [getObj,Sem.run,hh]
          simp only [Instr.lookup,cr,run_underlying hu,cJ,cM,tg,OQ,Instr.findKey,run_underlying hd,hq]
          cases q with
          | none=>simp only [cM,cJ,cr,gV hi ur]
          | some p=>rfl
       rcases key with ⟨rfl,_,hn⟩ | ⟨i,j,e,rfl,_,HR,_,_,hn⟩
       . simp only [cr,fin _ (hn 0),cJ,cM]
         refine a8 h ?_
         cases ok
         . exact Ws
         . simp only [if_true,az]
           exact ⟨[vz,.bool false],rfl,by simp only [aA]; exact ⟨_,_,rfl,Ws,_,_,rfl,by simp only [az],rfl⟩⟩
       . simp only [cr,fin _ (hn 0),cJ,cM,Nat.sub_zero]
         have hv:az g (vs.getD i z) e.val:=by
          have aQ:i < vs.length:=by
           have a:=(dx.1 HR).1
           have b:=h2.length
           simp at b; omega
          obtain ⟨v,hv,Pb⟩:=h2.get (i:=i) (x:=vs[i]) (pk aQ)
          rw [nr,HR] at hv
          simp at hv
          subst hv
          have:vs.getD i z=vs[i]:=by simp [pT,aQ]
          rw [this]; exact Pb
         refine a8 h ?_
         cases ok
         . exact hv
         . simp only [if_true,az]
           exact ⟨[e.val,.bool true],rfl,by simp only [aA]; exact ⟨_,_,rfl,hv,_,_,rfl,by simp only [az],rfl⟩⟩
   . trivial
 . trivial
theorem Na (h:bo g U w):aD.Fits C g U .vg (.ok (.value (.map (some w.heap.size))) (w.alloc (.map #[] 0))):=by
 obtain ⟨b,g',h1,h2,h3,h4⟩:=h.uy (.map #[] 0) 0 0 (.mp [] []) fun g' hle hi hm=>⟨#[],0,heap_alloc_new w _,⟨by simp,by simp⟩,⟨[],List.Perm.refl _,by simp [pW],by simp [aA],by simp [aA]⟩,hm⟩
 exact ⟨_,_,g',b,rfl,h1,h2,h4,by simp only [NV.at,az]; exact ⟨_,Gh.qd.2 ⟨_,h3,rfl⟩,rfl⟩⟩
end
end Go.Rip
namespace Go.Rip
open Go.RowKit
def bQ (c a b:AV):aD :=
 match c with
 | .bool t=>.val (if t=true then a else b)
 | _=>.bad
def Au (P:Program) (s f:Nat):Option (Nat × Bool × Nat) :=
 match P.underlying s with
 | some (.struct fields)=>match fields[f]? with
   | some x=>match oP P x.type with
     | some (b,n)=>some (x.offset,b,n)
     | none=>none
   | none=>none
 | _=>none
def zj (P:Program) (s:TypeId) (x:AV) (f:Nat):aD :=
 match Au P s f,x with
 | some (o,true,n),.agg l=>.cond (o+n <= l.length) (.val (.agg ((l.drop o).take n)))
 | some (o,false,_),.agg l=>iX (l.drop o)
 | _,_=>.bad
def iN (P:Program) (f:AV) (args:List AV):aD :=
 match f with
 | .func (.func g) first cap=>if eX P g=true then .enter g (first++args++cap) else .bad
 | .rZ o=>.yield o args
 | _=>.bad
def I0 (P:Program) (t:TypeId) (m:AV):aD :=
 match rA P t,m with
 | some _,.fY ks vs=>.new .it none (.iter (ks.zip vs) none)
 | _,_=>.bad
def tP:List (AV × AV)->List ((AV × AV) × List (AV × AV))
 | []=>[]
 | x::xs=>(x,xs)::(tP xs).map fun p=>(p.1,x::p.2)
def sJ (i:AV) (U:St):aD :=
 match i with
 | .it o=>match U.iter o with
   | some ([],_)=>.val (.aH [.bool false])
   | some (x::xs,_)=>.lW o ((tP (x::xs)).map fun p=>(.aH [.bool true,p.1.1,p.1.2],.iter p.2 (some p.1)))
   | none=>.bad
 | _=>.bad
def mX (i:AV) (U:St):aD :=
 match i with
 | .it o=>match U.iter o with
   | some (_,some kv)=>.val (.aH [kv.1,kv.2])
   | _=>.bad
 | _=>.bad
def Al (P:Program) (t:TypeId):Option AV :=
 match P.underlying t with
 | some (.interface _)=>none
 | some _=>zeroV P t
 | none=>none
def vW (P:Program) (x:AV) (t:TypeId) (ok:Bool):aD :=
 match Al P t,x with
 | some z,.iface u v=>if u=t then .val (if ok then .aH [v,.bool true] else v) else if ok then .val (.aH [z,.bool false]) else .bad
 | some z,.dr=>if ok then .val (.aH [z,.bool false]) else .bad
 | _,_=>.bad
def tO (P:Program) (t:TypeId) (mu:Bool) (l c:AV):aD :=
 match fH P t,l,c with
 | some (e,sz),.int _ l,.int _ c=>match qp P e with
   | some z=>.cond (0 <= l/\l=c/\c <= 65536) (if mu then .pD l.toNat sz e none (bN l.toNat z) else .ou l.toNat (bN l.toNat z) none ⟨l.toNat,e,sz⟩)
   | none=>.bad
 | _,_,_=>.bad
def zc (P:Program) (t:TypeId) (x:AV) (U:St):aD :=
 match fH P t,x with
 | some (e,sz),.ms b off n jr _=>match U.box b,qp P e with
   | some l,some z=>.cond (jr=sz/\off+n * sz <= l.length) (.iH (.aH []) b (.box (ay l off (bN n z))))
   | _,_=>.bad
 | _,_=>.bad
def CN (P:Program) (t u:TypeId):Option (TypeId × Nat × List AV) :=
 match P.underlying u with
 | some (.int _)=>match fH P t with
   | some (e,sz)=>match qp P e with
     | some z=>some (e,sz,z)
     | none=>none
   | none=>none
 | _=>none
def GB (q:TypeId × Nat × List AV) (mu:Bool) (s y:AV):aD :=
 match s,y with
 | .ah,.int _ n=>.cond (0 < n/\n <= 65536) (if mu then .pD n.toNat q.2.1 q.1 none (bN n.toNat q.2.2) else .ou n.toNat (bN n.toNat q.2.2) none ⟨n.toNat,q.1,q.2.1⟩)
 | _,_=>.bad
def Hj (st:Option (TypeId × Nat)) (x:AV):aD:=match st,x with
 | some _,.ah=>.val (.int .i64 0)
 | _,_=>.bad
def Aj (P:Program) (t u:TypeId) (mu:Bool) (s y:AV) (U:St):aD :=
 match CN P t u with
 | some q=>GB q mu s y
 | none=>DR P t u mu s y U
def Aq (C:cQ) (mu:Bool) (c:Call) (ρ:Env) (U:St):aD :=
 match c.callee,c.argTypes.toList,c.args.toList with
 | .value f,_,args=>iN C.P (ρ.ev C f) (args.map (ρ.ev C))
 | .builtin .len,[t],[x]=>Iu C.P t (ρ.ev C x) U
 | .builtin .append,[t,u],[s,y]=>Aj C.P t u mu (ρ.ev C s) (ρ.ev C y) U
 | .builtin .cap,[t],[x]=>Hj (fH C.P t) (ρ.ev C x)
 | .builtin .min,_,[x,y]=>zG (ρ.ev C x) (ρ.ev C y)
 | .builtin .max,_,[x,y]=>B5 (ρ.ev C x) (ρ.ev C y)
 | .builtin .clear,[t],[x]=>zc C.P t (ρ.ev C x) U
 | _,_,_=>.bad
def j6 (C:cQ) (mu:Bool) (o:Op) (ρ:Env) (U:St):aD :=
 match o with
 | .move x | .assign x=>.val (ρ.ev C x)
 | .pick c a b=>bQ (ρ.ev C c) (ρ.ev C a) (ρ.ev C b)
 | .alloc t=>G5 C.P t
 | .box _ x=>eS (ρ.ev C x)
 | .build t parts=>Hg C.P t (mY C ρ parts)
 | .buildSlice t n parts=>sF C.P t n mu (mY C ρ parts)
 | .insert t m k v | .mapUpdate t m k v=>rB C.P t (ρ.ev C m) (ρ.ev C k) (ρ.ev C v) U
 | .load t a=>u7 C.P t (ρ.ev C a) U
 | .store t a v=>Jn C.P t (ρ.ev C a) (ρ.ev C v) U
 | .nilCheck x=>aW (ρ.ev C x)
 | .binOp op t x y _=>Hb C.P op t (isLit x || isLit y) (ρ.ev C x) (ρ.ev C y)
 | .unOp op _ x=>kr op (ρ.ev C x)
 | .convert s d x=>Gz C.P s d (ρ.ev C x)
 | .makeInterface t x=>xS C.P t (ρ.ev C x)
 | .makeFunc fn first cap=>.val (.func fn (first.toList.map (ρ.ev C)) (cap.toList.map (ρ.ev C)))
 | .makeMap _ none=>.vg
 | .slice t x lo hi none=>Jg C.P t (ρ.ev C x) (lo.map (ρ.ev C)) (hi.map (ρ.ev C))
 | .fieldAddr s x f=>xr C.P s (ρ.ev C x) f
 | .field s x f=>zj C.P s (ρ.ev C x) f
 | .indexAddr t x i=>xF C.P t (ρ.ev C x) (ρ.ev C i)
 | .index t x i=>C2 C.P t (ρ.ev C x) (ρ.ev C i)
 | .lookup t m k ok=>wP C.P t (ρ.ev C m) (ρ.ev C k) ok U
 | .extract t i=>aT (ρ.ev C t) i
 | .panic x=>uA (ρ.ev C x)
 | .range t m=>I0 C.P t (ρ.ev C m)
 | .typeAssert x _ t ok=>vW C.P (ρ.ev C x) t ok
 | .makeSlice t l c=>tO C.P t mu (ρ.ev C l) (ρ.ev C c)
 | .next i false=>sJ (ρ.ev C i) U
 | .entry i=>mX (ρ.ev C i) U
 | .call c=>Aq C mu c ρ U
 | _=>.bad
section
variable {C:cQ} {g:Gh} {U:St} {w:World}
theorem DZ (h:bo g U w) {s f:Nat} {x:AV} {v:Value} (hx:az g x v):aD.Fits C g U (zj C.P s x f) ((do let r <- Instr.field s v f; pure (Next.value r):Sem Next).run C.P w):=by
 unfold zj
 have key:∀ {o b n},Au C.P s f=some (o,b,n)->∃ fs y i d,C.P.underlying s=some (.struct fs)/\fs[f]?=some y/\y.offset=o/\C.P.info? y.type=some i/\C.P.underlying y.type=some d/\DQ d=b/\i.size=n:=fun {o b n} hf=>by
  unfold Au at hf
  split at hf
  . rename_i fs hu
    split at hf
    . rename_i y hy
      split at hf
      . rename_i b' n' hv
        simp only [ja,jA] at hf
        obtain ⟨rfl,rfl,rfl⟩:=hf
        obtain ⟨i,d,h1,h2,h3,h4⟩:=px hv
        exact ⟨fs,y,i,d,hu,hy,rfl,h1,h2,h3,h4⟩
      . cases hf
    . cases hf
  . cases hf
 split
 . rename_i o n l hf
   obtain ⟨fs,y,i,d,hu,hy,rfl,hi,hd,ha,rfl⟩:=key hf
   intro hle
   simp only [az] at hx
   obtain ⟨vs,rfl,h1,hr⟩:=hx
   simp only [Instr.field,cr,run_underlying hu,cJ,hy,asAgg,cM,part,mi hd,ha,if_true,fD,fe hi]
   refine a8 h ?_
   simp only [az]
   refine ⟨(vs.drop y.offset).take i.size,?_,fun u hu=>h1 u (List.mem_of_mem_drop (List.mem_of_mem_take hu)),(hr.drop _).take _⟩
   congr 1
   apply Array.ext'
   simp [List.extract_eq_take_drop]
 . rename_i o n l hf
   obtain ⟨fs,y,i,d,hu,hy,rfl,hi,hd,ha,rfl⟩:=key hf
   simp only [az] at hx
   obtain ⟨vs,rfl,h1,hr⟩:=hx
   cases hl:l.drop y.offset with
   | nil=>trivial
   | cons z zs =>
     have hz:l[y.offset]?=some z:=by
      have:=congrArg (fun l=>l[0]?) hl
      simpa using this
     obtain ⟨u,pM,hzu⟩:=hr.get hz
     have e:vs.toArray[y.offset]?=some u:=by simpa using pM
     simp only [Instr.field,cr,run_underlying hu,cJ,hy,asAgg,cM,part,mi hd,ha,bU,if_false,fD,e]
     exact a8 h hzu
 . trivial
theorem As (hG:iL C g) {ρ:Env} {a:Act} (hr:hY g ρ a.tmps):∀ l:List Operand,aA g (l.map (ρ.ev C)) (l.map a.eval)
 | []=>by simp [aA]
 | x::l=>by simp only [eC,aA]; exact ⟨_,_,rfl,ue hG hr x,As hG hr l⟩
theorem TH (h:bo g U w) {f:AV} {vf:Value} {args:List AV} {vs:List Value} (hf:az g f vf) (ha:aA g args vs) :
 aD.Fits C g U (iN C.P f args) ((do let d <- Deferred.ofValue vf vs.toArray; invoke d.target d.args:Sem Next).run C.P w):=by
 unfold iN
 split
 . rename_i q first cap
   split
   . rename_i he
     simp only [az] at hf
     obtain ⟨fs,cs,rfl,h1,h2⟩:=hf
     unfold eX at he
     split at he
     . rename_i fn hfn
       simp only [bX,Bool.not_eq_true'] at he
       have hb:fn.body.isNone=false:=by cases hb:fn.body <;> simp_all
       simp only [Deferred.ofValue,invoke,callFunc,cr,cM,cJ,run_program,hfn,he.2,hb,bU,if_false,fD]
       exact ⟨fs++vs++cs,w,by simp,h,(h1.append ha).append h2⟩
     . cases he
   . trivial
 . rename_i o
   simp only [az] at hf
   obtain ⟨x,hx,rfl⟩:=hf
   simp only [Deferred.ofValue,invoke,cr,cM,cJ]
   exact ⟨vs,x,w,w,hx,by simp,rfl,h,ha⟩
 . trivial
theorem Cp (h:bo g U w) {x:AV} {v:Value} {xt t:TypeId} {ok:Bool} (hx:az g x v) :
 aD.Fits C g U (vW C.P x t ok) ((do let r <- Instr.typeAssert v xt t ok; pure (Next.value r):Sem Next).run C.P w):=by
 have key:∀ {z:AV},Al C.P t=some z->∃ d i vz,C.P.underlying t=some d/\(∀ ms,d ≠ .interface ms)/\C.P.info? t=some i/\i.zero=some vz/\az g z vz:=fun {z} hz=>by
  unfold Al at hz
  split at hz
  . cases hz
  . rename_i d hn hd
    unfold zeroV at hz
    cases hi:C.P.info? t with
    | none=>simp [hi] at hz
    | some i =>
      cases pb:i.zero with
      | none=>simp [hi,pb] at hz
      | some vz=>simp [hi,pb] at hz; exact ⟨d,i,vz,hd,fun ms e=>hn ms e,rfl,pb,by rw [<- hz]; exact DW vz⟩
  . cases hz
 unfold vW
 split
 . rename_i z u y hz
   obtain ⟨d,i,vz,hd,hn,hi,pb,Pg⟩:=key hz
   simp only [az] at hx
   obtain ⟨q,rfl,hq⟩:=hx
   have iu:(Instr.typeAssert (.iface u q) xt t ok).run C.P w=(if u=t then .ok (if ok then .tuple #[q,.bool true] else q) w else if ok then .ok (.tuple #[vz,.bool false]) w else (Instr.typeAssert (.iface u q) xt t ok).run C.P w):=by
    by_cases hu:u=t
    . rw [if_pos hu]
      cases d <;> first
       | exact absurd rfl (hn _)
       | (cases ok <;> simp [Instr.typeAssert,run_underlying hd,hu])
    . rw [if_neg hu]
      cases ok
      . rfl
      . cases d <;> first
         | exact absurd rfl (hn _)
         | simp [Instr.typeAssert,run_underlying hd,hu,gV hi pb]
   split
   . rename_i hu
     rw [cr,iu,if_pos hu]
     refine a8 h ?_
     cases ok
     . exact hq
     . simp only [if_true,az,aA]; exact ⟨_,rfl,_,_,rfl,hq,_,_,rfl,rfl,rfl⟩
   . rename_i hu
     split
     . rename_i cK
       rw [cr,iu,if_neg hu,if_pos cK]
       exact a8 h (by simp only [az,aA]; exact ⟨_,rfl,_,_,rfl,Pg,_,_,rfl,rfl,rfl⟩)
     . trivial
 . rename_i z hz
   obtain ⟨d,i,vz,hd,hn,hi,pb,Pg⟩:=key hz
   simp only [az] at hx
   subst hx
   split
   . rename_i cK
     subst cK
     have iu:(Instr.typeAssert .nilIface xt t true).run C.P w=.ok (.tuple #[vz,.bool false]) w:=by
      cases d <;> first
       | exact absurd rfl (hn _)
       | simp [Instr.typeAssert,run_underlying hd,gV hi pb]
     rw [cr,iu]
     exact a8 h (by simp only [az,aA]; exact ⟨_,rfl,_,_,rfl,Pg,_,_,rfl,rfl,rfl⟩)
   . trivial
 . trivial
theorem Db (h:bo g U w) {t:TypeId} {mu:Bool} {l c:AV} {vl vc:Value} (hl:az g l vl) (hc:az g c vc) :
 aD.Fits C g U (tO C.P t mu l c) ((do let x <- Instr.makeSlice t vl vc; pure (Next.value x):Sem Next).run C.P w):=by
 unfold tO
 split
 . rename_i e sz kl l kc c hs
   split
   . rename_i z hz
     rintro ⟨h0,rfl,h1⟩
     obtain ⟨i,zv,hu,hi,pb,wI,eP,rq,hb,_⟩:=jc hs
     obtain ⟨i',zv',lr,Fp,hm⟩:=og hz
     rw [hi] at lr; cases lr
     rw [pb] at Fp; cases Fp
     obtain ⟨h2,h3⟩:=eZ (g:=g) hm
     simp only [az] at hl hc
     subst hl hc
     have aaU:(i.bytes:Int) * l <= 281474976710656:=by
      have e1:(i.bytes:Int) * l <= 32768 * l:=Int.mul_le_mul_of_nonneg_right (by omega) h0
      omega
     have iu:=run_make (P:=C.P) w t e i zv hu hi pb kl kc l l h0 (Int.le_refl _) aaU (by omega)
     have zu:=tT (g:=g) h2 l.toNat
     have hmc:madeCells zv.cells (l.toNat * i.size)=(Array.range (l.toNat * zv.cells.size)).map (zv.cells[· % zv.cells.size]!):=by rw [eP,<- wI]; rfl
     have B1:∀ u ∈ (madeCells zv.cells (l.toNat * i.size)).toList,u.oneCell'=true:=fun u hu=>by
      rw [hmc] at hu
      simp only [Array.toList_map,List.mem_map] at hu
      obtain ⟨j,_,rfl⟩:=hu
      have aQ:j % zv.cells.size < zv.cells.size:=Nat.mod_lt _ (by omega)
      rw [getElem!_pos zv.cells _ aQ]
      exact h3 _ (by simp)
     rw [<- hmc] at zu
     have hlen:(madeCells zv.cells (l.toNat * i.size)).toList.length=l.toNat * sz:=by rw [hmc]; simp [wI]
     have Ic:z.length=sz:=by have:=h2.length; simp at this; omega
     simp only [cr,iu,cJ,cM]
     cases mu
     . have:=pZ (C:=C) (del:=none) (e:=e) (sz:=sz) (n:=l.toNat) (c:=l.toNat) h (vs:=(madeCells zv.cells (l.toNat * i.size)).toList) (rest:=[]) zu B1 (by simp) (by rw [lT,Ic]) (by simpa using hlen) (cX _) (by unfold maxLen; omega)
       simpa using this
     . have:=rk (C:=C) (del:=none) (e:=e) (sz:=sz) (n:=l.toNat) (c:=l.toNat) h (vs:=(madeCells zv.cells (l.toNat * i.size)).toList) (rest:=[]) zu B1 (by simp) (by simpa using hlen) (cX _) (by unfold maxLen; omega)
       simpa using this
   . trivial
 . trivial
theorem JM (h:bo g U w) {t ty:TypeId} {x:AV} {v:Value} (hx:az g x v) :
 aD.Fits C g U (zc C.P t x U) ((do let r <- Builtin.clear_ #[t] ty #[v]; pure (Next.value r):Sem Next).run C.P w):=by
 unfold zc
 split
 . rename_i e sz b off n jr e' hs
   split
   . rename_i l z hb hz
     rintro ⟨rfl,h1⟩
     obtain ⟨i,zv,hu,hi,pb,wI,eP,rq,_⟩:=jc hs
     obtain ⟨i',zv',lr,Fp,hm⟩:=og hz
     rw [hi] at lr; cases lr
     rw [pb] at Fp; cases Fp
     obtain ⟨h2,h3⟩:=eZ (g:=g) hm
     simp only [az] at hx
     obtain ⟨y,c,hy,rfl,_⟩:=hx
     have Ic:z.length=jr:=by have:=h2.length; simp at this; omega
     have zu:=tT (g:=g) h2 n
     have hzc:Builtin.zeroCells zv.cells n=(Array.range (n * zv.cells.size)).map (zv.cells[· % zv.cells.size]!):=rfl
     obtain ⟨w',fT,eO⟩:=wW (C:=C) (off:=off) h hb hy zu (mP h3 n (by omega)) (by rw [lT,Ic]; exact h1)
     rw [<- hzc] at fT
     by_cases hn:n=0
     . subst hn
       have e0:U.cg b (ay l off (bN 0 z))=U.cg b l:=by simp [ay,bN]
       simp only [Builtin.clear_,cr,cM,cJ]
       simp [run_underlying hu]
       refine ⟨_,w,g,.inl rfl,Gh.Le.refl g,?_,by simp only [az]; exact ⟨[],rfl,by simp [aA]⟩⟩
       show bo g (U.cg b (ay l off (bN 0 z))) w
       rw [e0]; exact h.ad0 hb
     . have hz2:=gV (P:=C.P) hi pb w
       have aaW:(Builtin.clear_ #[t] ty #[.slice (some ⟨y.aI,off,none⟩) n c]).run C.P w=.ok (.tuple #[]) w':=by
        simp [Builtin.clear_,run_underlying hu,hz2,fT,hn]
       simp only [cr,aaW,cJ,cM]
       exact ⟨_,w',g,.inl rfl,Gh.Le.refl g,eO,by simp only [az]; exact ⟨[],rfl,by simp [aA]⟩⟩
   . trivial
 . trivial
theorem BM:∀ {ks vs:List AV},ks.length=vs.length->(ks.zip vs).map (·.1)=ks
 | [],[],_=>rfl
 | [],_::_,h=>by simp at h
 | _::_,[],h=>by simp at h
 | k::ks,v::vs,h=>by simp only [List.zip_cons_cons,eC]; rw [BM (by simpa using h)]
theorem BN:∀ {ks vs:List AV},ks.length=vs.length->(ks.zip vs).map (·.2)=vs
 | [],[],_=>rfl
 | [],_::_,h=>by simp at h
 | _::_,[],h=>by simp at h
 | k::ks,v::vs,h=>by simp only [List.zip_cons_cons,eC]; rw [BN (by simpa using h)]
theorem Kf (h:bo g U w) {t:TypeId} {m:AV} {v:Value} (hm:az g m v):aD.Fits C g U (I0 C.P t m) ((do let x <- Instr.range t v; pure (Next.value x):Sem Next).run C.P w):=by
 unfold I0
 split
 . rename_i p ks vs ht
   obtain ⟨fk,e⟩:=p
   obtain ⟨kt,hu,_⟩:=zF ht
   simp only [az] at hm
   obtain ⟨r,es,clock,l,rfl,hr,hp,hs,h1,h2⟩:=hm
   obtain ⟨q1,q2⟩:=h.ca r es clock hr
   have hlen:ks.length=vs.length:=by
    have a:=h1.length
    have b:=h2.length
    simp at a b; omega
   have tg:(getObj r).run C.P w=.ok (.map es clock) w:=by simp [getObj,Sem.run,q1]
   obtain ⟨b,g',f1,f2,f3,f4⟩:=h.uy (.mapIter (some r) clock #[] clock) 0 0 (.iter (ks.zip vs) none) fun g' hle hi O3 =>
    ⟨r,es,clock,#[],heap_alloc_new w _,hle.ca _ _ hr,⟨l,by
      have:(es.toList.filter fun e=>!(#[]:Array Nat).contains e.born)=es.toList:=by simp
      rw [this]; exact hp,by rw [BM hlen]; exact h1.mono hle,by rw [BN hlen]; exact h2.mono hle⟩,trivial⟩
   simp only [Instr.range,cr,run_underlying hu,cJ,tg,cM,run_newObj]
   exact ⟨_,_,g',b,rfl,f1,f2,f4,by simp only [NV.at,az]; exact ⟨_,f3,rfl⟩⟩
 . trivial
theorem FZ:∀ {l:List (AV × AV)} {i:Nat} {x:AV × AV},l[i]?=some x->(x,l.eraseIdx i) ∈ tP l
 | [],i,x,h=>by simp at h
 | y::l,0,x,h=>by simp at h; subst h; simp [tP]
 | y::l,i+1,x,h=>by
   simp only [List.getElem?_cons_succ] at h
   simp only [tP,List.eraseIdx_cons_succ,cD,List.mem_map]
   exact .inr ⟨_,FZ h,rfl⟩
theorem aA.eraseIdx:∀ {l:List AV} {vs:List Value} (i:Nat),aA g l vs->aA g (l.eraseIdx i) (vs.eraseIdx i)
 | [],_,_,h=>by simp only [aA] at h; subst h; simp [aA]
 | y::ys,_,0,h=>by
   simp only [aA] at h
   obtain ⟨v,vs,rfl,h1,h2⟩:=h
   simpa using h2
 | y::ys,_,i+1,h=>by
   simp only [aA] at h
   obtain ⟨v,vs,rfl,h1,h2⟩:=h
   simp only [List.eraseIdx_cons_succ,aA]
   exact ⟨v,_,rfl,h1,aA.eraseIdx i h2⟩
theorem ot {α β:Type} (f:α->β):∀ (l:List α) (i:Nat),(l.eraseIdx i).map f=(l.map f).eraseIdx i
 | [],i=>by simp
 | x::l,0=>by simp
 | x::l,i+1=>by simp [ot f l i]
theorem Gt {α:Type} {l m:List α} (h:l.Perm m) {i j:Nat} {e:α} (hi:l[i]?=some e) (hj:m[j]?=some e):(l.eraseIdx i).Perm (m.eraseIdx j):=by
 obtain ⟨h1,h2⟩:=dx.1 hi
 obtain ⟨h3,h4⟩:=dx.1 hj
 have el:l=l.take i++e::l.drop (i+1):=by
  conv=>lhs; rw [<- List.take_append_drop i l,gT h1,h2]
 have em:m=m.take j++e::m.drop (j+1):=by
  conv=>lhs; rw [<- List.take_append_drop j m,gT h3,h4]
 have hp:(l.take i++e::l.drop (i+1)).Perm (m.take j++e::m.drop (j+1)):=by rw [<- el,<- em]; exact h
 have h5:=(List.perm_middle.symm.trans hp).trans List.perm_middle
 rw [List.eraseIdx_eq_take_drop_succ,List.eraseIdx_eq_take_drop_succ]
 exact List.Perm.cons_inv h5
theorem JV {es:List MapEntry} (hn:(es.map (·.born)).Nodup) {seen:Array Nat} {e:MapEntry} {j:Nat} (hj:(es.filter fun x=>!seen.contains x.born)[j]?=some e) :
 (es.filter fun x=>!(seen.push e.born).contains x.born)=(es.filter fun x=>!seen.contains x.born).eraseIdx j:=by
 have e1:(es.filter fun x=>!(seen.push e.born).contains x.born)=(es.filter fun x=>!seen.contains x.born).filter fun x=>x.born != e.born:=by
  rw [List.filter_filter]
  apply List.filter_congr
  intro x _
  simp only [Array.contains_push,Bool.not_or]
  rw [Bool.and_comm]
  congr 1
 rw [e1]
 have CY:((es.filter fun x=>!seen.contains x.born).map (·.born)).Nodup:=List.Nodup.sublist (List.Sublist.map _ List.filter_sublist) hn
 generalize (es.filter fun x=>!seen.contains x.born)=l at hj CY
 clear e1 hn es
 induction l generalizing j with
 | nil=>simp at hj
 | cons y l ih =>
   simp only [eC,List.nodup_cons] at CY
   cases j with
   | zero =>
     simp at hj; subst hj
     simp only [List.filter_cons,bne_self_eq_false,bU,if_false,List.eraseIdx_zero,List.tail_cons]
     rw [List.filter_eq_self]
     intro x hx
     simp only [bne_iff_ne,ne_eq]
     intro he
     exact CY.1 (he ▸ List.mem_map_of_mem hx)
   | succ j =>
     simp only [List.getElem?_cons_succ] at hj
     have cn:y.born ≠ e.born:=fun he=>CY.1 (he ▸ List.mem_map_of_mem (gh hj))
     simp only [List.filter_cons,bne_iff_ne,ne_eq,cn,not_false_eq_true,if_true,List.eraseIdx_cons_succ]
     rw [ih hj CY.2]
theorem Nb (h:bo g U w) {i:AV} {v:Value} {ty:TypeId} (hi:az g i v):aD.Fits C g U (sJ i U) ((do let x <- Instr.next v false ty; pure (Next.value x):Sem Next).run C.P w):=by
 unfold sJ
 split
 . rename_i o
   simp only [az] at hi
   obtain ⟨p,hp,rfl⟩:=hi
   split
   . rename_i cur hit
     obtain ⟨p',k1,k2,m,es,clock,seen,k3,k4,⟨l,k5,k6,k7⟩,k8⟩:=h.live o _ (St.xK.1 hit)
     rw [hp] at k1; cases k1
     obtain ⟨q1,q2⟩:=h.ca m es clock k4
     simp only [nu,aA,List.map_eq_nil_iff] at k6
     subst k6
     have D5:=k5.symm.eq_nil
     have OV:(getObj p.aI).run C.P w=.ok (.mapIter (some m) clock seen clock) w:=by simp [getObj,Sem.run,k3]
     have OW:(getObj m).run C.P w=.ok (.map es clock) w:=by simp [getObj,Sem.run,q1]
     have Mv:(!seen.isEmpty && !es.isEmpty && es.all (fun e=>decide (e.born >= clock)))=false:=by
      cases he:es.isEmpty
      . have:es.all (fun e=>decide (e.born >= clock))=false:=by
         rw [Array.all_eq_false]
         have h0:0 < es.size:=by
          rcases Nat.eq_zero_or_pos es.size with h0 | h0
          . simp [Array.isEmpty,h0] at he
          . exact h0
         refine ⟨0,h0,?_⟩
         have:=q2.2 es[0] (by simp)
         simp; omega
        simp [this]
      . simp
     have adE:(es.filter fun e=>!seen.contains e.born)=#[]:=by
      apply Array.ext'
      simpa using D5
     simp only [Instr.next,cr,OV,cJ,OW,Mv,fD,bU,if_false,cM,adE]
     have e2:(#[]:Array MapEntry).filter (fun e=>decide (e.born < clock))=#[]:=by simp
     have e3:(#[]:Array MapEntry).filter (fun e=>decide (e.born >= clock))=#[]:=by simp
     simp [choose,Sem.run,Question.forced,Result.andThen]
     exact a8 h (by simp only [az,aA]; exact ⟨[.bool false],rfl,_,_,rfl,rfl,rfl⟩)
   . rename_i x xs cur hit
     obtain ⟨p',k1,k2,m,es,clock,seen,k3,k4,⟨l,k5,k6,k7⟩,k8⟩:=h.live o _ (St.xK.1 hit)
     rw [hp] at k1; cases k1
     obtain ⟨q1,q2⟩:=h.ca m es clock k4
     have OV:(getObj p.aI).run C.P w=.ok (.mapIter (some m) clock seen clock) w:=by simp [getObj,Sem.run,k3]
     have Mv:(!seen.isEmpty && !es.isEmpty && es.all (fun e=>decide (e.born >= clock)))=false:=by
      cases he:es.isEmpty
      . have:es.all (fun e=>decide (e.born >= clock))=false:=by
         rw [Array.all_eq_false]
         have h0:0 < es.size:=by
          rcases Nat.eq_zero_or_pos es.size with h0 | h0
          . simp [Array.isEmpty,h0] at he
          . exact h0
         refine ⟨0,h0,?_⟩
         have:=q2.2 es[0] (by simp)
         simp; omega
        simp [this]
      . simp
     generalize hL:(es.filter fun e=>!seen.contains e.born)=L
     have KL:(es.toList.filter fun e=>!seen.contains e.born)=L.toList:=by rw [<- hL]; simp
     rw [KL] at k5
     have nQ:∀ e ∈ L.toList,e ∈ es.toList:=fun e he=>by rw [<- KL] at he; exact (List.mem_filter.1 he).1
     have hlen:l.length=xs.length+1:=by have:=k6.length; simpa using this
     have HE:L.size=xs.length+1:=by rw [<- hlen,k5.length_eq]; simp
     have hold:L.filter (fun e=>decide (e.born < clock))=L:=by
      apply Array.ext'
      rw [Array.toList_filter,List.filter_eq_self]
      intro e he
      have:=q2.2 e (nQ e he)
      simpa using this
     have qw:L.filter (fun e=>decide (e.born >= clock))=#[]:=by
      apply Array.ext'
      rw [Array.toList_filter]
      apply List.filter_eq_nil_iff.2
      intro e he
      have:=q2.2 e (nQ e he)
      simp; omega
     have hem:L.isEmpty=false:=by simp [Array.isEmpty,HE]
     have key:∀ (w1:World) (c:Nat),w1.heap=w.heap->w1.os=w.os->w1.tape=w.tape->w1.output=w.output->c < L.size ->
      ∀ e,L[c]?=some e->∃ u w' g' v x',(setObj p.aI (.mapIter (some m) clock (seen.push e.born) clock)).run C.P w1=.ok () w'/\u=Value.tuple #[.bool true,e.key,e.val] /\
       (v,x') ∈ (tP (x::xs)).map (fun p=>(AV.aH [.bool true,p.1.1,p.1.2],Live.iter p.2 (some p.1)))/\Gh.Le g g'/\bo g' (U.set o x') w'/\az g' v u:=fun w1 c e1 e2 e3 e4 hc e he=>by
      have mH:L.toList[c]?=some e:=by rw [lA]; exact he
      obtain ⟨a,ha⟩:=List.getElem?_of_mem (k5.mem_iff.2 (gh mH))
      have HG:a < (x::xs).length:=by
       have:=(dx.1 ha).1
       rw [hlen] at this; simpa using this
      have K5:(x::xs)[a]?=some ((x::xs)[a]):=pk HG
      generalize (x::xs)[a]=kv at K5
      obtain ⟨vk,dG,qN⟩:=k6.get (i:=a) (x:=kv.1) (by rw [nr,K5]; rfl)
      obtain ⟨vv,hvv,gl⟩:=k7.get (i:=a) (x:=kv.2) (by rw [nr,K5]; rfl)
      rw [nr,ha] at dG hvv
      simp at dG hvv
      subst dG hvv
      have D6:(setObj p.aI (.mapIter (some m) clock (seen.push e.born) clock)).run C.P w1=.ok () { w1 with heap:=w1.heap.setIfInBounds p.aI (.mapIter (some m) clock (seen.push e.born) clock) }:=by
       simp [setObj,Sem.run,e1,k3]
      have aQ:=(lz.1 k3).1
      refine ⟨_,_,g,_,_,D6,rfl,List.mem_map.2 ⟨_,FZ K5,rfl⟩,Gh.Le.refl g,?_,?_⟩
      . refine h.rewrite (St.xK.1 hit) hp ⟨e2,e3,e4,by simp [e1]⟩ (fun k hk _=>by simp only [e1]; exact Array.getElem?_setIfInBounds_ne (Ne.symm hk)) (fun o=>?_) ?_ ?_
        . cases ei:g.cB p.aI o with
          | none=>rfl
          | some u=>have:=(h.cB _ _ _ ei).1; simp [World.cell?,k3] at this
        . cases ei:g.ca p.aI with
          | none=>rfl
          | some u=>have:=(h.ca _ _ _ ei).1; rw [k3] at this; cases this
        . refine ⟨m,es,clock,seen.push e.born,by simp [e1,aQ],k4,⟨l.eraseIdx a,?_,?_,?_⟩,e,?_,by simp,qN,gl⟩
          . have Be:(es.toList.filter fun e=>!seen.contains e.born)[c]?=some e:=by rw [KL]; exact mH
            rw [JV q2.1 Be,KL]
            exact Gt k5 ha mH
          . rw [ot,ot]; exact k6.eraseIdx a
          . rw [ot,ot]; exact k7.eraseIdx a
          . exact nQ e (gh mH)
      . simp only [az,aA]
        exact ⟨_,rfl,_,_,rfl,rfl,_,_,rfl,qN,_,_,rfl,gl,rfl⟩
     have HV:∀ (n:Nat) (w1:World),(choose (.mapNext L.size)).run C.P w=.ok n w1->w1.heap=w.heap->w1.os=w.os->w1.tape=w.tape->w1.output=w.output->n < L.size ->
      aD.Fits C g U (.lW o ((tP (x::xs)).map fun p=>(.aH [.bool true,p.1.1,p.1.2],.iter p.2 (some p.1)))) ((do let x <- Instr.next (.pointer (some ⟨p.aI,0,none⟩)) false ty; pure (Next.value x):Sem Next).run C.P w):=fun n w1 hch e1 e2 e3 e4 hn=>by
      have OW:(getObj m).run C.P w=.ok (.map es clock) w:=by simp [getObj,Sem.run,q1]
      have hLn:L[n]?=some L[n]:=by simp [hn]
      generalize L[n]=e at hLn
      obtain ⟨u,w',g',v,x',r1,r2,r3,r4,r5,r6⟩:=key w1 n e1 e2 e3 e4 hn e hLn
      have adx:((#[]:Array (Option MapEntry))++(L++#[]).map some).size=L.size:=by simp
      have hcn:((#[]:Array (Option MapEntry))++(L++#[]).map some)[n]?=some (some e):=by simp [hLn]
      simp only [Instr.next,cr,OV,cJ,OW,Mv,fD,bU,if_false,cM,hL,hold,qw,hem,adx,hch,hcn,r1]
      exact ⟨_,w',g',v,x',rfl,r3,r4,r5,by rw [<- r2]; exact r6⟩
     by_cases hf:L.size <= 1
     . refine HV 0 w ?_ rfl rfl rfl rfl (by omega)
       simp [choose,Sem.run,Question.forced,hf]
     . refine HV (w.tape w.drawn (.mapNext L.size) % L.size) w.drew ?_ rfl rfl rfl rfl (Nat.mod_lt _ (by omega))
       have hfq:Question.forced (.mapNext L.size)=false:=by simp only [Question.forced,decide_eq_false_iff_not]; exact hf
       simp only [choose,Sem.run,hfq,bU,if_false,Question.cut]
       rfl
   . trivial
 . trivial
theorem JQ (h:bo g U w) {i:AV} {v:Value} (hi:az g i v):aD.Fits C g U (mX i U) ((do let x <- Instr.entry v; pure (Next.value x):Sem Next).run C.P w):=by
 unfold mX
 split
 . rename_i o
   simp only [az] at hi
   obtain ⟨p,hp,rfl⟩:=hi
   split
   . rename_i rest kv hit
     obtain ⟨p',k1,k2,m,es,clock,seen,k3,k4,_,e,k5,k6,k7,k8⟩:=h.live o _ (St.xK.1 hit)
     rw [hp] at k1; cases k1
     obtain ⟨q1,q2⟩:=h.ca m es clock k4
     have OV:(getObj p.aI).run C.P w=.ok (.mapIter (some m) clock seen clock) w:=by simp [getObj,Sem.run,k3]
     have OW:(getObj m).run C.P w=.ok (.map es clock) w:=by simp [getObj,Sem.run,q1]
     have MA:es.find? (fun x=>x.born == e.born)=some e:=by
      rw [<- Array.find?_toList]
      have hn:=q2.1
      generalize es.toList=l at k5 hn
      induction l with
      | nil=>simp at k5
      | cons y l ih =>
        simp only [eC,List.nodup_cons] at hn
        rw [List.find?_cons]
        rcases cD.1 k5 with rfl | hm
        . simp
        . have:(y.born == e.born)=false:=by
           simp only [beq_eq_false_iff_ne,ne_eq]
           intro he
           exact hn.1 (he ▸ List.mem_map_of_mem hm)
          rw [this]
          exact ih hm hn.2
     simp only [Instr.entry,cr,OV,cJ,k6,OW,bne_self_eq_false,bU,if_false,fD,cM,MA]
     exact a8 h (by simp only [az,aA]; exact ⟨_,rfl,_,_,rfl,k7,_,_,rfl,k8,rfl⟩)
   . trivial
 . trivial
theorem A0 (hG:iL C g) {ρ:Env} {a:Act} (hr:hY g ρ a.tmps) (parts:Array (Nat × Operand)) :
 (parts.map fun (i,x)=>(i,a.eval x)).size=(mY C ρ parts).length/\∀ (i:Nat) (p:Nat × AV) (q:Nat × Value),(mY C ρ parts)[i]?=some p->(parts.map fun (i,x)=>(i,a.eval x))[i]?=some q->p.1=q.1/\az g p.2 q.2:=by
 refine ⟨by simp [mY],fun i p q h1 h2=>?_⟩
 simp only [mY,nr,lA,pS] at h1
 obtain ⟨y,hy,rfl⟩:=h1
 simp only [Array.getElem?_map,hy,Option.map_some,ja] at h2
 subst h2
 exact ⟨rfl,ue hG hr _⟩
theorem Lw (hG:iL C g) {ρ:Env} {a:Act} (hr:hY g ρ a.tmps) (x:Option Operand):match x.map (ρ.ev C),x.map a.eval with | none,none=>True | some x,some u=>az g x u | _,_=>False:=by
 cases x with
 | none=>trivial
 | some x=>exact ue hG hr x
theorem Du {P:Program} {w:World} {t u ty e:TypeId} {i:TypeInfo} {z:Value} {k k':IntKind} (ht:P.underlying t=some (.slice e)) (hu:P.underlying u=some (.int k')) (hi:P.info? e=some i) (hz:i.zero=some z) (CQ:i.bytes <= 32768) (hp:0 < i.size)
 {n:Nat} (h0:0 < n) (hn:n <= 65536) :
 (Builtin.append_ #[t,u] ty #[.slice none 0 0,.int k (n:Int)]).run P w =
   .ok (.slice (some ⟨w.heap.size,0,none⟩) n (grownCap w n 0 e))
    (w.drew.alloc (.cells (Builtin.zeroCells z.cells n++Builtin.zeroCells z.cells (grownCap w n 0 e - n)) e)):=by
 have adO:IntKind.i64.wrap (n:Int)=n:=yz ⟨by omega,by omega⟩
 have TR:¬ (9223372036854775807 < (n:Int)):=by omega
 have gg:n * i.bytes <= 140737488355328:=Nat.le_trans (Nat.mul_le_mul hn CQ) (by omega)
 have OK:=growslice_fits (old:=0) (need:=n) (bytes:=i.bytes) (by omega) gg
 have TQ:¬ (281474976710656 < Builtin.nextslicecap n 0 * i.bytes):=by omega
 have lq:¬ ((281474976710656:Int) < (n:Int) * (i.bytes:Int)):=by
  have:(n:Int) * (i.bytes:Int)=((n * i.bytes:Nat):Int):=by simp
  omega
 have hns:¬ (n=0\/i.size=0):=by omega
 have afn:¬ ((n:Int) < 0):=by omega
 simp [Builtin.append_,run_underlying ht,run_underlying hu,sizeOf,typeInfo,zeroValue,hi,hz,adO,TR,TQ,lq,hns,afn,Question.forced,newRow,grownCap,asInt,asIntOf,Builtin.firstCells]
 have e1:n ≠ 0:=by omega
 have e2:n * i.size ≠ 0:=Nat.mul_ne_zero e1 (by omega)
 rw [if_neg e1,if_neg e2]
theorem Mr {P:Program} {t u:TypeId} {q:TypeId × Nat × List AV} (h:CN P t u=some q):∃ k,P.underlying u=some (.int k)/\fH P t=some (q.1,q.2.1)/\qp P q.1=some q.2.2:=by
 unfold CN at h
 split at h
 . rename_i k hu
   split at h
   . rename_i e sz hs
     split at h
     . rename_i z hz
       cases h
       exact ⟨k,hu,hs,hz⟩
     . cases h
   . cases h
 . cases h
theorem Mq (h:bo g U w) {t u ty:TypeId} {mu:Bool} {q:TypeId × Nat × List AV} (hq:CN C.P t u=some q) {s y:AV} {v v2:Value} (hs:az g s v) (hy:az g y v2) :
 aD.Fits C g U (GB q mu s y) ((do let r <- Builtin.append_ #[t,u] ty #[v,v2]; pure (Next.value r):Sem Next).run C.P w):=by
 obtain ⟨k',hu,tB,hz⟩:=Mr hq
 unfold GB
 split
 . rename_i k n
   rintro ⟨h0,h1⟩
   obtain ⟨i,zv,ht,hi,pb,wI,eP,rq,CQ,hz1⟩:=jc tB
   obtain ⟨i',zv',lr,Fp,hm⟩:=og hz
   rw [hi] at lr; cases lr
   rw [pb] at Fp; cases Fp
   obtain ⟨h2,h3⟩:=eZ (g:=g) hm
   simp only [az] at hs hy
   subst hs hy
   obtain ⟨m,rfl⟩:∃ m:Nat,n=m:=⟨n.toNat,by omega⟩
   simp only [iZ]
   have kn:=grownCap_ge w m 0 q.1
   have hle:=grownCap_le_maxLen w m 0 q.1 (by unfold maxLen; omega)
   rw [cr,Du (k:=k) ht hu hi pb CQ (by omega) (by omega) (by omega)]
   have eO:=h.grow (lj w)
   have zu:=tT (g:=g) h2 m
   have Ic:q.2.2.length=i.size:=by have:=h2.length; simp at this; omega
   have B1:=mP h3 m (by omega)
   have We:=mP h3 (grownCap w m 0 q.1 - m) (by omega)
   have hlen:(Builtin.zeroCells zv.cells m).toList.length+(Builtin.zeroCells zv.cells (grownCap w m 0 q.1 - m)).toList.length=grownCap w m 0 q.1 * q.2.1:=by
    rw [tm,tm,size_zeroCells,size_zeroCells,wI,<- Nat.add_mul,<- eP]
    congr 1; omega
   have ew:Builtin.zeroCells zv.cells m++Builtin.zeroCells zv.cells (grownCap w m 0 q.1 - m)=((Builtin.zeroCells zv.cells m).toList++(Builtin.zeroCells zv.cells (grownCap w m 0 q.1 - m)).toList).toArray:=by simp
   rw [ew]
   simp only [cJ,cM]
   cases mu
   . exact pZ eO zu B1 We (by rw [lT,Ic,eP]) hlen kn hle
   . exact rk eO zu B1 We hlen kn hle
 . trivial
theorem Oi (h:bo g U w) {t ty:TypeId} {x:AV} {v:Value} (hx:az g x v) :
 aD.Fits C g U (Hj (fH C.P t) x) ((do let r <- Builtin.cap_ #[t] ty #[v]; pure (Next.value r):Sem Next).run C.P w):=by
 unfold Hj
 split
 . rename_i q hq
   obtain ⟨e,sz⟩:=q
   obtain ⟨i,z,ht,_⟩:=jc hq
   simp only [az] at hx
   subst hx
   have:(Builtin.cap_ #[t] ty #[.slice none 0 0]).run C.P w=.ok (.int .i64 0) w:=by simp [Builtin.cap_,run_underlying ht]; rfl
   rw [cr,this]
   exact a8 h (by simp only [az])
 . trivial
theorem G8 (h:bo g U w) {t u ty:TypeId} {mu:Bool} {s y:AV} {v v2:Value} (hs:az g s v) (hy:az g y v2) :
 aD.Fits C g U (Aj C.P t u mu s y U) ((do let r <- Builtin.append_ #[t,u] ty #[v,v2]; pure (Next.value r):Sem Next).run C.P w):=by
 unfold Aj
 split
 . rename_i q hq
   exact Mq h hq hs hy
 . exact G7 h hs hy
theorem L6 (h:bo g U w) (hG:iL C g) {ρ:Env} {a:Act} (hr:hY g ρ a.tmps) (mu:Bool) (c:Call) (ty:TypeId) :
 aD.Fits C g U (Aq C mu c ρ U) ((do let d <- resolve a.eval c ty; invoke d.target d.args:Sem Next).run C.P w):=by
 obtain ⟨callee,⟨args⟩,⟨argTypes⟩⟩:=c
 have e:=fun x=>ue hG hr x
 have fin:aD.Fits C g U (match callee,argTypes,args with
  | .value f,_,args=>iN C.P (ρ.ev C f) (args.map (ρ.ev C))
  | .builtin .len,[t],[x]=>Iu C.P t (ρ.ev C x) U
  | .builtin .append,[t,u],[s,y]=>Aj C.P t u mu (ρ.ev C s) (ρ.ev C y) U
  | .builtin .cap,[t],[x]=>Hj (fH C.P t) (ρ.ev C x)
  | .builtin .min,_,[x,y]=>zG (ρ.ev C x) (ρ.ev C y)
  | .builtin .max,_,[x,y]=>B5 (ρ.ev C x) (ρ.ev C y)
  | .builtin .clear,[t],[x]=>zc C.P t (ρ.ev C x) U
  | _,_,_=>.bad) ((do let d <- resolve a.eval ⟨callee,⟨args⟩,⟨argTypes⟩⟩ ty; invoke d.target d.args:Sem Next).run C.P w):=by
  split
  . rename_i f
    have:=TH (C:=C) h (e f) (As hG hr args)
    have e2:(args.map a.eval).toArray=(⟨args⟩:Array Operand).map a.eval:=by simp
    rw [e2] at this
    exact this
  . rename_i t x
    have:=PA (C:=C) (ty:=ty) h (t:=t) (e x)
    simpa only [resolve,invoke,builtin,cr,cM,cJ,List.map_toArray,eC,nu] using this
  . rename_i t u s y
    have:=G8 (C:=C) (ty:=ty) (mu:=mu) h (t:=t) (u:=u) (e s) (e y)
    simpa only [resolve,invoke,builtin,cr,cM,cJ,List.map_toArray,eC,nu] using this
  . rename_i t x
    have:=Oi (C:=C) (ty:=ty) h (t:=t) (e x)
    simpa only [resolve,invoke,builtin,cr,cM,cJ,List.map_toArray,eC,nu] using this
  . rename_i x y
    have:=PF (C:=C) (ty:=ty) (ts:=⟨argTypes⟩) h (e x) (e y)
    simpa only [resolve,invoke,builtin,cr,cM,cJ,List.map_toArray,eC,nu] using this
  . rename_i x y
    have:=PE (C:=C) (ty:=ty) (ts:=⟨argTypes⟩) h (e x) (e y)
    simpa only [resolve,invoke,builtin,cr,cM,cJ,List.map_toArray,eC,nu] using this
  . rename_i t x
    have:=JM (C:=C) (ty:=ty) h (t:=t) (e x)
    simpa only [resolve,invoke,builtin,cr,cM,cJ,List.map_toArray,eC,nu] using this
  . trivial
 exact fin
theorem Ux (h:bo g U w) (hG:iL C g) {ρ:Env} {a:Act} (hr:hY g ρ a.tmps) (mu:Bool) (o:Oper):aD.Fits C g U (j6 C mu o.op ρ U) ((execOp a.eval o).run C.P w):=by
 have e:=fun x=>ue hG hr x
 obtain ⟨dst,op,type,pos,after,guard⟩:=o
 unfold j6
 dsimp only
 split
 . exact a8 h (e _)
 . exact a8 h (e _)
 . rename_i c x y
   unfold bQ
   split
   . rename_i t ht
     have hc:=e c
     rw [ht] at hc
     simp only [az] at hc
     simp only [execOp,hc,asBool,cr,cM,cJ]
     refine a8 h ?_
     cases t
     . exact e _
     . exact e _
   . trivial
 . exact JF h
 . exact Ob h (e _)
 . obtain ⟨h1,h2⟩:=A0 hG hr ‹_›
   exact JJ h h1 h2
 . obtain ⟨h1,h2⟩:=A0 hG hr ‹_›
   exact BS h h1 h2
 . exact vd h (e _) (e _) (e _)
 . exact vd h (e _) (e _) (e _)
 . exact MZ h (e _)
 . exact Kl h (e _) (e _)
 . exact Ei h rfl (e _)
 . exact N9 h _ _ (e _) (e _)
 . exact Vx h (e _)
 . exact Ma h (e _)
 . exact Da h (e _)
 . rename_i fn first cap
   simp only [execOp,Instr.makeFunc,cr,cM,cJ]
   refine a8 h ?_
   simp only [az]
   exact ⟨first.toList.map a.eval,cap.toList.map a.eval,by congr 1 <;> (apply Array.ext'; simp),As hG hr _,As hG hr _⟩
 . simp only [execOp,Instr.makeMap,Option.map_none,cr,cM,cJ,run_newObj]
   exact Na h
 . exact Kk h (e _) (Lw hG hr _) (Lw hG hr _)
 . exact CH h (e _)
 . exact DZ h (e _)
 . exact C3 h (e _) (e _)
 . exact J0 h (e _) (e _)
 . exact IA h (e _) (e _)
 . exact Gp h (e _) _
 . exact Kc h (e _)
 . exact Kf h (e _)
 . exact Cp h (e _)
 . exact Db h (e _) (e _)
 . exact Nb h (e _)
 . exact JQ h (e _)
 . exact L6 h hG hr mu _ _
 . trivial
end
end Go.Rip
