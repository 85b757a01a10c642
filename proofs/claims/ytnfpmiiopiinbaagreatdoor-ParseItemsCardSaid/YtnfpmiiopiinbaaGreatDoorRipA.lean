/- Lemmas for the proof: no conditions. -/
import Derived.Test.YtnfpmiiopiinbaaGreatDoorRipZz
import Derived.RangeFuncIn
import Derived.Laws.AppendOwn
import Derived.Below
import Derived.Laws.StructEq
import Derived.Lib.ConvBytes
import Derived.RangeFuncLeaves
import Derived.RangeFuncCalls
import Derived.Laws.MakeOwn
set_option linter.unusedVariables false
set_option linter.unusedSimpArgs false
set_option linter.loopingSimpArgs false
namespace Go.Rip
open Go.RowKit
structure Tok where
 n:Nat
 e:TypeId
 size:Nat
 deriving DecidableEq
inductive j9 where
 | full
 | own (τ:Nat)
 | jD
inductive AV where
 | bool (b:Bool)
 | int (k:IntKind) (n:Int)
 | str (s:List UInt8)
 | aV
 | aw
 | jq
 | dj
 | cJ
 | box (b off:Nat)
 | cn (l:List AV)
 | vec (n:Nat) (cap:j9) (l:List AV)
 | ms (b off n ir:Nat) (e:TypeId)
 | mp (m:Nat)
 | eZ (ks vs:List AV)
 | func (fn:Fn) (first captured:List AV)
 | iface (t:TypeId) (v:AV)
 | agg (l:List AV)
 | aF (l:List AV)
 | pX (o:Nat)
 | it (o:Nat)
 | any
instance:Inhabited AV:=⟨.any⟩
structure Place where
 aE:Nat
 e:TypeId
 size:Nat
structure eG where
 ρ:Nat->AV
 nt:Nat
 params:Array Tmp
 assign:Code
 body:Code
 state:LoopState
 fe:Option Code
 tag:Nat
inductive Live where
 | box (l:List AV)
 | tok (t:Tok)
 | mp (ks vs:List AV)
 | loop (L:eG)
 | iter (rest:List (AV × AV)) (cur:Option (AV × AV))
 | ri (t:TypeId) (l:List AV)
structure Gh where
 base:Nat
 w0:World
 place:Nat->Option Place
 bS:Nat->Nat->Option Value
 bI:Nat->Option (Array MapEntry × Nat)
 res:Nat->Bool
def Gh.box (g:Gh) (b:Nat):Option Place:=g.place b
def Gh.tok (g:Gh) (b:Nat):Option (Nat × Nat):=(g.place b).map fun p=>(p.aE,p.size)
def Gh.mp (g:Gh) (b:Nat):Option Nat:=(g.place b).map (·.aE)
theorem Gh.jI {g:Gh} {b:Nat} {x:Nat × Nat}:g.tok b=some x ↔ ∃ p,g.place b=some p/\p.aE=x.1/\p.size=x.2:=by
 unfold Gh.tok
 cases g.place b with
 | none=>simp
 | some p=>simp [Prod.ext_iff]
theorem Gh.ou {g:Gh} {b:Nat} {x:Nat}:g.mp b=some x ↔ ∃ p,g.place b=some p/\p.aE=x:=by
 unfold Gh.mp
 cases g.place b with
 | none=>simp
 | some p=>simp
def kg (g:Gh) (aE off:Nat) (vs:List Value):Prop:=∀ i u,vs[i]?=some u->g.bS aE (off+i)=some u
def ph (g:Gh) (cap:j9) (aE off n c:Nat):Prop :=
 match cap with
 | .full=>c=n
 | .own τ=>off=0/\g.tok τ=some (aE,c)
 | .jD=>True
def iz:AV->AV->Bool
 | .int k a,.int k' b=>decide (k=k') && decide (a < b)
 | .str a,.str b=>decide (a < b)
 | _,_=>false
def oc (ks:List AV):Prop:=ks.Pairwise (fun a b=>iz a b=true)
def jJ (es:Array MapEntry) (clock:Nat):Prop:=(es.toList.map (·.born)).Nodup/\∀ e ∈ es.toList,e.born < clock
mutual
def ay (g:Gh):AV->Value->Prop
 | .bool b,v=>v=.bool b
 | .int k n,v=>v=.int k n
 | .str s,v=>v=.string ⟨s.toArray⟩
 | .aV,v=>v=.pointer none
 | .aw,v=>v=.slice none 0 0
 | .jq,v=>v=.map none
 | .dj,v=>v=.nilFunc
 | .cJ,v=>v=.nilIface
 | .box b off,v=>∃ x,g.box b=some x/\v=.pointer (some ⟨x.aE,off,none⟩)
 | .cn l,v=>∃ aE off vs,v=.pointer (some ⟨aE,off,none⟩)/\kg g aE off vs/\az g l vs
 | .vec n cap l,v=>∃ aE off c vs,v=.slice (some ⟨aE,off,none⟩) n c/\n <= c/\c <= maxLen/\ph g cap aE off n c/\kg g aE off vs/\az g l vs
 | .ms b off n ir e,v=>∃ x c,g.box b=some x/\v=.slice (some ⟨x.aE,off,none⟩) n c/\n <= c/\c <= maxLen/\off+c * ir=x.size/\x.e=e
 | .mp m,v=>∃ r,g.mp m=some r/\v=.map (some r)
 | .eZ ks vs,v=>∃ r es clock,∃ l:List MapEntry,v=.map (some r)/\g.bI r=some (es,clock)/\l.Perm es.toList/\oc ks/\az g ks (l.map (·.key))/\az g vs (l.map (·.val))
 | .func fn first captured,v=>∃ fs cs,v=.func fn (List.toArray fs) (List.toArray cs)/\az g first fs/\az g captured cs
 | .iface t x,v=>∃ u,v=.iface t u/\ay g x u
 | .agg l,v=>∃ vs,v=.agg (List.toArray vs)/\(∀ u ∈ vs,u.oneCell'=true)/\az g l vs
 | .aF l,v=>∃ vs,v=.tuple (List.toArray vs)/\az g l vs
 | .pX o,v=>∃ x,g.place o=some x/\v=.func (.yield x.aE) #[] #[]
 | .it o,v=>∃ x,g.place o=some x/\v=.pointer (some ⟨x.aE,0,none⟩)
 | .any,_=>True
def az (g:Gh):List AV->List Value->Prop
 | [],vs=>vs=[]
 | x::xs,vs=>∃ u us,vs=u::us/\ay g x u/\az g xs us
end
structure Gh.Le (g g':Gh):Prop where
 base:g'.base=g.base
 w0:g'.w0=g.w0
 place:∀ b x,g.place b=some x->g'.place b=some x
 bS:∀ b o x,g.bS b o=some x->g'.bS b o=some x
 bI:∀ b x,g.bI b=some x->g'.bI b=some x
 res:∀ b,g.res b=true->g'.res b=true
 xQ:∀ b o,b < g.base->g'.bS b o=g.bS b o
 uP:∀ b,b < g.base->g'.bI b=g.bI b
theorem Gh.Le.refl (g:Gh):Gh.Le g g:=⟨rfl,rfl,fun _ _ h=>h,fun _ _ _ h=>h,fun _ _ h=>h,fun _ h=>h,fun _ _ _=>rfl,fun _ _=>rfl⟩
theorem Gh.Le.trans {a b c:Gh} (h:Gh.Le a b) (k:Gh.Le b c):Gh.Le a c :=
 ⟨k.base.trans h.base,k.w0.trans h.w0,fun _ _ x=>k.place _ _ (h.place _ _ x),fun _ _ _ x=>k.bS _ _ _ (h.bS _ _ _ x),fun _ _ x=>k.bI _ _ (h.bI _ _ x),fun _ x=>k.res _ (h.res _ x),
   fun q o hq=>(k.xQ q o (by rw [h.base]; exact hq)).trans (h.xQ q o hq),fun q hq=>(k.uP q (by rw [h.base]; exact hq)).trans (h.uP q hq)⟩
structure Gh.rT (g g':Gh):Prop where
 place:∀ b x,g.place b=some x->g'.place b=some x
 bS:∀ b o x,g.bS b o=some x->g'.bS b o=some x
 bI:∀ b x,g.bI b=some x->g'.bI b=some x
theorem Gh.rT.tok {g g':Gh} (h:Gh.rT g g') {b:Nat} {x:Nat × Nat} (hb:g.tok b=some x):g'.tok b=some x:=by
 obtain ⟨p,h1,h2,h3⟩:=Gh.jI.1 hb
 exact Gh.jI.2 ⟨p,h.place _ _ h1,h2,h3⟩
theorem Gh.rT.mp {g g':Gh} (h:Gh.rT g g') {b x:Nat} (hb:g.mp b=some x):g'.mp b=some x:=by
 obtain ⟨p,h1,h2⟩:=Gh.ou.1 hb
 exact Gh.ou.2 ⟨p,h.place _ _ h1,h2⟩
theorem Gh.Le.r {g g':Gh} (h:Gh.Le g g'):Gh.rT g g':=⟨h.place,h.bS,h.bI⟩
theorem Gh.Le.box {g g':Gh} (h:Gh.Le g g') (b:Nat) (x:Place) (hb:g.box b=some x):g'.box b=some x:=h.place b x hb
theorem Gh.Le.tok {g g':Gh} (h:Gh.Le g g') (b:Nat) (x:Nat × Nat) (hb:g.tok b=some x):g'.tok b=some x:=h.r.tok hb
theorem Gh.Le.mp {g g':Gh} (h:Gh.Le g g') (b:Nat) (x:Nat) (hb:g.mp b=some x):g'.mp b=some x:=h.r.mp hb
theorem kg.ep {g g':Gh} (h:Gh.rT g g') {aE off:Nat} {vs:List Value} (hi:kg g aE off vs):kg g' aE off vs:=fun i u hu=>h.bS _ _ _ (hi i u hu)
theorem ph.ep {g g':Gh} (h:Gh.rT g g') {cap:j9} {aE off n c:Nat} (hi:ph g cap aE off n c):ph g' cap aE off n c:=by
 cases cap with
 | full=>exact hi
 | own τ=>exact ⟨hi.1,h.tok hi.2⟩
 | jD=>trivial
mutual
theorem ay.ep {g g':Gh} (h:Gh.rT g g'):∀ (x:AV) (v:Value),ay g x v->ay g' x v
 | .bool _,_,hr=>hr
 | .int _ _,_,hr=>hr
 | .str _,_,hr=>hr
 | .aV,_,hr=>hr
 | .aw,_,hr=>hr
 | .jq,_,hr=>hr
 | .dj,_,hr=>hr
 | .cJ,_,hr=>hr
 | .box _ _,_,hr=>by
   simp only [ay] at hr ⊢
   obtain ⟨x,hx,hv⟩:=hr
   exact ⟨x,h.place _ _ hx,hv⟩
 | .cn l,_,hr=>by
   simp only [ay] at hr ⊢
   obtain ⟨aE,off,vs,hv,hi,hl⟩:=hr
   exact ⟨aE,off,vs,hv,hi.ep h,az.ep h l vs hl⟩
 | .vec n cap l,_,hr=>by
   simp only [ay] at hr ⊢
   obtain ⟨aE,off,c,vs,hv,h1,h2,hc,hi,hl⟩:=hr
   exact ⟨aE,off,c,vs,hv,h1,h2,hc.ep h,hi.ep h,az.ep h l vs hl⟩
 | .ms _ _ _ _ _,_,hr=>by
   simp only [ay] at hr ⊢
   obtain ⟨x,c,hx,r⟩:=hr
   exact ⟨x,c,h.place _ _ hx,r⟩
 | .mp _,_,hr=>by
   simp only [ay] at hr ⊢
   obtain ⟨x,hx,hv⟩:=hr
   exact ⟨x,h.mp hx,hv⟩
 | .eZ ks vs,_,hr=>by
   simp only [ay] at hr ⊢
   obtain ⟨r,es,c,l,hv,he,hp,hs,h1,h2⟩:=hr
   exact ⟨r,es,c,l,hv,h.bI _ _ he,hp,hs,az.ep h ks _ h1,az.ep h vs _ h2⟩
 | .func fn first captured,_,hr=>by
   simp only [ay] at hr ⊢
   obtain ⟨fs,cs,hv,h1,h2⟩:=hr
   exact ⟨fs,cs,hv,az.ep h first _ h1,az.ep h captured _ h2⟩
 | .iface t x,_,hr=>by
   simp only [ay] at hr ⊢
   obtain ⟨u,hv,h1⟩:=hr
   exact ⟨u,hv,ay.ep h x _ h1⟩
 | .agg l,_,hr=>by
   simp only [ay] at hr ⊢
   obtain ⟨vs,hv,h0,h1⟩:=hr
   exact ⟨vs,hv,h0,az.ep h l _ h1⟩
 | .aF l,_,hr=>by
   simp only [ay] at hr ⊢
   obtain ⟨vs,hv,h1⟩:=hr
   exact ⟨vs,hv,az.ep h l _ h1⟩
 | .pX o,_,hr=>by
   simp only [ay] at hr ⊢
   obtain ⟨x,hx,hv⟩:=hr
   exact ⟨x,h.place _ _ hx,hv⟩
 | .it o,_,hr=>by
   simp only [ay] at hr ⊢
   obtain ⟨x,hx,hv⟩:=hr
   exact ⟨x,h.place _ _ hx,hv⟩
 | .any,_,_=>by simp only [ay]
theorem az.ep {g g':Gh} (h:Gh.rT g g'):∀ (l:List AV) (vs:List Value),az g l vs->az g' l vs
 | [],_,hr=>by simpa only [az] using hr
 | x::xs,_,hr=>by
   simp only [az] at hr ⊢
   obtain ⟨u,us,hv,h1,h2⟩:=hr
   exact ⟨u,us,hv,ay.ep h x _ h1,az.ep h xs _ h2⟩
end
theorem kg.mono {g g':Gh} (h:Gh.Le g g') {aE off:Nat} {vs:List Value} (hi:kg g aE off vs):kg g' aE off vs:=hi.ep h.r
theorem ph.mono {g g':Gh} (h:Gh.Le g g') {cap:j9} {aE off n c:Nat} (hi:ph g cap aE off n c):ph g' cap aE off n c:=hi.ep h.r
theorem ay.mono {g g':Gh} (h:Gh.Le g g') (x:AV) (v:Value) (hr:ay g x v):ay g' x v:=ay.ep h.r x v hr
theorem az.mono {g g':Gh} (h:Gh.Le g g') (l:List AV) (vs:List Value) (hr:az g l vs):az g' l vs:=az.ep h.r l vs hr
theorem az.length {g:Gh}:∀ {l:List AV} {vs:List Value},az g l vs->vs.length=l.length
 | [],_,h=>by simp only [az] at h; simp [h]
 | _::xs,_,h=>by
   simp only [az] at h
   obtain ⟨u,us,rfl,_,h2⟩:=h
   simp [az.length h2]
theorem az.append {g:Gh}:∀ {l l':List AV} {vs vs':List Value},az g l vs->az g l' vs'->az g (l++l') (vs++vs')
 | [],_,_,_,h,h'=>by simp only [az] at h; subst h; simpa using h'
 | _::xs,_,_,_,h,h'=>by
   simp only [az,ib] at h ⊢
   obtain ⟨u,us,rfl,h1,h2⟩:=h
   exact ⟨u,us++_,rfl,h1,az.append h2 h'⟩
theorem az.get {g:Gh}:∀ {l:List AV} {vs:List Value} {i:Nat} {x:AV},az g l vs->l[i]?=some x->∃ v,vs[i]?=some v/\ay g x v
 | [],_,_,_,_,hx=>by simp at hx
 | y::xs,_,0,x,h,hx=>by
   simp only [az] at h
   obtain ⟨u,us,rfl,h1,h2⟩:=h
   simp at hx; subst hx; exact ⟨u,rfl,h1⟩
 | y::xs,_,i+1,x,h,hx=>by
   simp only [az] at h
   obtain ⟨u,us,rfl,h1,h2⟩:=h
   simp at hx
   obtain ⟨v,hv,hr⟩:=az.get h2 hx
   exact ⟨v,by simpa using hv,hr⟩
theorem az.drop {g:Gh}:∀ {l:List AV} {vs:List Value} (n:Nat),az g l vs->az g (l.drop n) (vs.drop n)
 | _,_,0,h=>by simpa using h
 | [],_,n+1,h=>by simp only [az] at h; subst h; simp [az]
 | _::xs,_,n+1,h=>by
   simp only [az] at h
   obtain ⟨u,us,rfl,h1,h2⟩:=h
   simpa using az.drop n h2
theorem az.take {g:Gh}:∀ {l:List AV} {vs:List Value} (n:Nat),az g l vs->az g (l.take n) (vs.take n)
 | _,_,0,_=>by simp [az]
 | [],_,n+1,h=>by simp only [az] at h; subst h; simp [az]
 | _::xs,_,n+1,h=>by
   simp only [az] at h
   obtain ⟨u,us,rfl,h1,h2⟩:=h
   simp only [List.take_succ_cons,az]
   exact ⟨u,_,rfl,h1,az.take n h2⟩
theorem az.Bs {g:Gh}:∀ {l:List AV} {vs:List Value},vs.length=l.length->(∀ (i:Nat) (x:AV) (v:Value),l[i]?=some x->vs[i]?=some v->ay g x v)->az g l vs
 | [],vs,hl,_=>by simp only [az]; simpa using hl
 | x::xs,[],hl,_=>by simp at hl
 | x::xs,v::vs,hl,h=>by
   simp only [az]
   exact ⟨v,vs,rfl,h 0 x v rfl rfl,az.Bs (by simpa using hl) fun i x v hx hv=>h (i+1) x v (by simpa using hx) (by simpa using hv)⟩
def vi (g:Gh) (ks vs:List AV) (es:Array MapEntry):Prop:=∃ l:List MapEntry,l.Perm es.toList/\oc ks/\az g ks (l.map (·.key))/\az g vs (l.map (·.val))
def Az (g:Gh) (es:Array MapEntry) (seen:Array Nat) (rest:List (AV × AV)) (cur:Option (AV × AV)):Prop :=
 (∃ l:List MapEntry,l.Perm (es.toList.filter fun e=>!seen.contains e.born)/\az g (rest.map (·.1)) (l.map (·.key))/\az g (rest.map (·.2)) (l.map (·.val))) /\
 (match cur with
  | none=>True
  | some (k,v)=>∃ e ∈ es.toList,seen.back?=some e.born/\ay g k e.key/\ay g v e.val)
def kh (g:Gh) (w:World) (p:Place):Live->Prop
 | .box l=>∃ cur vs rest,w.heap[p.aE]?=some (.cells cur p.e (0,0))/\cur.size=p.size/\cur.toList=vs++rest/\az g l vs/\(∀ u ∈ cur.toList,u.oneCell'=true)/\(∀ o,g.bS p.aE o=none)
 | .tok t=>∃ cur,w.heap[p.aE]?=some (.cells cur t.e (0,0))/\cur.size=p.size * t.size/\t.n <= p.size/\p.size <= maxLen/\(∀ o,t.n * t.size <= o->g.bS p.aE o=none)
 | .mp ks vs=>∃ es clock,w.heap[p.aE]?=some (.map es clock)/\jJ es clock/\vi g ks vs es/\g.bI p.aE=none
 | .loop L=>∃ fn tmps defers,w.heap[p.aE]?=some (.loop { state:=L.state,pending:=L.fe,fn,tmps,params:=L.params,assign:=L.assign,body:=L.body,defers })/\tmps.size=L.nt/\∀ t,ay g (L.ρ t) (tmps.getD t undef)
 | .iter rest cur=>∃ m es clock seen,w.heap[p.aE]?=some (.mapIter (some m) clock seen clock)/\g.bI m=some (es,clock)/\Az g es seen rest cur
 | .ri t l=>p.e=t/\p.size=l.length/\∃ cur vs rest,w.heap[p.aE]?=some (.cells cur p.e (0,0))/\cur.size=p.size/\cur.toList=vs++rest/\az g l vs/\(∀ u ∈ cur.toList,u.oneCell'=true)/\(∀ o,g.bS p.aE o=none)
structure St where
 live:Nat->Option Live
 nb:Option Nat
def St.box (U:St) (b:Nat):Option (List AV):=match U.live b with | some (.box l)=>some l | some (.ri _ l)=>some l | _=>none
def St.tok (U:St) (b:Nat):Option Tok:=match U.live b with | some (.tok t)=>some t | _=>none
def St.mp (U:St) (b:Nat):Option (List AV × List AV):=match U.live b with | some (.mp ks vs)=>some (ks,vs) | _=>none
def St.loop (U:St) (b:Nat):Option eG:=match U.live b with | some (.loop L)=>some L | _=>none
def St.iter (U:St) (b:Nat):Option (List (AV × AV) × Option (AV × AV)):=match U.live b with | some (.iter r c)=>some (r,c) | _=>none
theorem St.rU {U:St} {b:Nat} {l:List AV} (h:U.box b=some l):∃ x,U.live b=some x/\∀ g w p,kh g w p x->kh g w p (.box l):=by
 unfold St.box at h
 split at h
 . rename_i l' hl; cases h; exact ⟨_,hl,fun _ _ _ h=>h⟩
 . rename_i t l' hl; cases h; exact ⟨_,hl,fun _ _ _ h=>h.2.2⟩
 . cases h
theorem St.jI {U:St} {b:Nat} {l:Tok}:U.tok b=some l ↔ U.live b=some (.tok l):=by unfold St.tok; split <;> simp_all
theorem St.ou {U:St} {b:Nat} {l:List AV × List AV}:U.mp b=some l ↔ U.live b=some (.mp l.1 l.2):=by unfold St.mp; split <;> simp_all [Prod.ext_iff]
theorem St.lJ {U:St} {b:Nat} {l:eG}:U.loop b=some l ↔ U.live b=some (.loop l):=by unfold St.loop; split <;> simp_all
theorem St.vK {U:St} {b:Nat} {l:List (AV × AV) × Option (AV × AV)}:U.iter b=some l ↔ U.live b=some (.iter l.1 l.2):=by unfold St.iter; split <;> simp_all [Prod.ext_iff]
def St.set (U:St) (b:Nat) (x:Live):St:={ U with live:=fun y=>if y=b then some x else U.live y }
def St.del (U:St) (b:Nat):St:={ U with live:=fun y=>if y=b then none else U.live y }
def St.new (U:St) (b:Nat) (x:Live):St:={ live:=fun y=>if y=b then some x else U.live y,nb:=U.nb.map (·+1) }
def St.cY (U:St) (b:Nat):Prop:=U.live b=none/\∀ n,U.nb=some n->b=n
structure a8 (g:Gh) (U:St) (w:World):Prop where
 below:Below g.base g.w0 w
 le:g.base <= w.heap.size
 bS:∀ aE o u,g.bS aE o=some u->w.cell? ⟨aE,o,none⟩=some u/\u.oneCell'=true
 bI:∀ r es c,g.bI r=some (es,c)->w.heap[r]?=some (.map es c)/\jJ es c
 live:∀ b x,U.live b=some x->∃ p,g.place b=some p/\g.base <= p.aE/\kh g w p x
 apart:∀ b b' x x' p p',U.live b=some x->U.live b'=some x'->g.place b=some p->g.place b'=some p'->p.aE=p'.aE->b=b'
 res:∀ r,g.res r=true->g.base <= r/\w.heap[r]?=some (.deferred (some []))
 fin:∃ N,(∀ n,U.nb=some n->N=n)/\∀ b,N <= b->g.place b=none
end Go.Rip
namespace Go.Rip
open Go.RowKit
structure St.Le (U ad:St):Prop where
 live:∀ b x,U.live b=some x->ad.live b=some x
 nb:∀ n,U.nb=some n->ad.nb=some n
theorem St.Le.refl (U:St):St.Le U U:=⟨fun _ _ h=>h,fun _ h=>h⟩
theorem St.Le.trans {a b c:St} (h:St.Le a b) (k:St.Le b c):St.Le a c:=⟨fun _ _ x=>k.live _ _ (h.live _ _ x),fun _ x=>k.nb _ (h.nb _ x)⟩
theorem St.rV (U:St) (b:Nat):St.Le (U.del b) U:=⟨fun x y hx=>by simp only [St.del] at hx; split at hx <;> simp_all,fun _ h=>h⟩
theorem a8.weaken {g:Gh} {U ad:St} {w:World} (h:a8 g ad w) (hl:St.Le U ad):a8 g U w where
 below:=h.below
 le:=h.le
 bS:=h.bS
 bI:=h.bI
 live:=fun b l hb=>h.live b l (hl.live _ _ hb)
 apart:=fun b b' l l' x x' h1 h2=>h.apart b b' l l' x x' (hl.live _ _ h1) (hl.live _ _ h2)
 res:=h.res
 fin:=let ⟨N,h1,h2⟩:=h.fin; ⟨N,fun n hn=>h1 n (hl.nb n hn),h2⟩
theorem D9 {w w':World} {k:Nat} (h:w'.heap[k]?=w.heap[k]?) (o:Nat):w'.cell? ⟨k,o,none⟩=w.cell? ⟨k,o,none⟩:=by simp [World.cell?,h]
theorem a8.MG {g:Gh} {U:St} {w:World} (h:a8 g U w) {aE o:Nat} {u:Value} (hi:g.bS aE o=some u):aE < w.heap.size :=
 World.block_lt_of_cell? w ⟨aE,o,none⟩ (h.bS _ _ _ hi).1
theorem a8.II {g:Gh} {U:St} {w:World} (h:a8 g U w) {r:Nat} {x:Array MapEntry × Nat} (hi:g.bI r=some x):r < w.heap.size :=
 (jR.1 (h.bI r x.1 x.2 hi).1).1
theorem a8.yI {g:Gh} {U:St} {w:World} (h:a8 g U w) {q:Nat} (hq:w.heap.size <= q) (o:Nat):g.bS q o=none:=by
 cases e:g.bS q o with
 | none=>rfl
 | some u=>have:=h.MG e; omega
theorem a8.vE {g:Gh} {U:St} {w:World} (h:a8 g U w) {q:Nat} (hq:w.heap.size <= q):g.bI q=none:=by
 cases e:g.bI q with
 | none=>rfl
 | some u=>have:=h.II e; omega
theorem vi.ep {g g':Gh} (h:Gh.rT g g') {ks vs:List AV} {es:Array MapEntry} (hm:vi g ks vs es):vi g' ks vs es :=
 let ⟨l,h1,h2,h3,h4⟩:=hm; ⟨l,h1,h2,h3.ep h,h4.ep h⟩
theorem Az.ep {g g':Gh} (h:Gh.rT g g') {es:Array MapEntry} {seen:Array Nat} {rest:List (AV × AV)} {cur:Option (AV × AV)} (hm:Az g es seen rest cur):Az g' es seen rest cur:=by
 obtain ⟨⟨l,h1,h2,h3⟩,h4⟩:=hm
 refine ⟨⟨l,h1,h2.ep h,h3.ep h⟩,?_⟩
 cases cur with
 | none=>trivial
 | some kv=>obtain ⟨e,k1,k2,k3,k4⟩:=h4; exact ⟨e,k1,k2,k3.ep h,k4.ep h⟩
theorem kh.frame {g g':Gh} {w w':World} {p:Place} {x:Live} (h:kh g w p x) (hl:Gh.rT g g') (hb:w'.heap[p.aE]?=w.heap[p.aE]?) (hi:∀ o,g'.bS p.aE o=g.bS p.aE o) (hm:g'.bI p.aE=g.bI p.aE):kh g' w' p x:=by
 cases x with
 | box l=>obtain ⟨cur,vs,rest,h1,h2,h3,h4,h5,h6⟩:=h; exact ⟨cur,vs,rest,hb.trans h1,h2,h3,h4.ep hl,h5,fun o=>(hi o).trans (h6 o)⟩
 | tok t=>obtain ⟨cur,h1,h2,h3,h4,h5⟩:=h; exact ⟨cur,hb.trans h1,h2,h3,h4,fun o ho=>(hi o).trans (h5 o ho)⟩
 | mp ks vs=>obtain ⟨es,clock,h1,h2,h3,h4⟩:=h; exact ⟨es,clock,hb.trans h1,h2,h3.ep hl,hm.trans h4⟩
 | loop L=>obtain ⟨fn,tmps,defers,h1,h2,h3⟩:=h; exact ⟨fn,tmps,defers,hb.trans h1,h2,fun t=>(h3 t).ep hl⟩
 | iter rest cur=>obtain ⟨m,es,clock,seen,h1,h2,h3⟩:=h; exact ⟨m,es,clock,seen,hb.trans h1,hl.bI _ _ h2,h3.ep hl⟩
 | ri t l=>obtain ⟨e1,e2,cur,vs,rest,h1,h2,h3,h4,h5,h6⟩:=h; exact ⟨e1,e2,cur,vs,rest,hb.trans h1,h2,h3,h4.ep hl,h5,fun o=>(hi o).trans (h6 o)⟩
theorem kh.lt {g:Gh} {w:World} {p:Place} {x:Live} (h:kh g w p x):p.aE < w.heap.size:=by
 have:∃ o,w.heap[p.aE]?=some o:=by
  cases x with
  | box l=>obtain ⟨cur,vs,rest,h1,_⟩:=h; exact ⟨_,h1⟩
  | tok t=>obtain ⟨cur,h1,_⟩:=h; exact ⟨_,h1⟩
  | mp ks vs=>obtain ⟨es,clock,h1,_⟩:=h; exact ⟨_,h1⟩
  | loop L=>obtain ⟨fn,tmps,defers,h1,_⟩:=h; exact ⟨_,h1⟩
  | iter rest cur=>obtain ⟨m,es,clock,seen,h1,_⟩:=h; exact ⟨_,h1⟩
  | ri t l=>obtain ⟨_,_,cur,vs,rest,h1,_⟩:=h; exact ⟨_,h1⟩
 exact (jR.1 this.choose_spec).1
theorem kh.IV {g:Gh} {w:World} {p:Place} {x:Live} (h:kh g w p x) {r:Nat} {ds:Option (List Deferred)} (hr:w.heap[r]?=some (.deferred ds)):p.aE ≠ r:=by
 intro e
 subst e
 cases x with
 | box l=>obtain ⟨cur,vs,rest,h1,_⟩:=h; rw [hr] at h1; cases h1
 | tok t=>obtain ⟨cur,h1,_⟩:=h; rw [hr] at h1; cases h1
 | mp ks vs=>obtain ⟨es,clock,h1,_⟩:=h; rw [hr] at h1; cases h1
 | loop L=>obtain ⟨fn,tmps,defers,h1,_⟩:=h; rw [hr] at h1; cases h1
 | iter rest cur=>obtain ⟨m,es,clock,seen,h1,_⟩:=h; rw [hr] at h1; cases h1
 | ri t l=>obtain ⟨_,_,cur,vs,rest,h1,_⟩:=h; rw [hr] at h1; cases h1
theorem a8.change {g g':Gh} {U:St} {w w':World} (h:a8 g U w) (B:Nat) (hB:g.base <= B) (hle:Gh.Le g g') (k9:g'.place=g.place) (hres:g'.res=g.res)
 (hw:w'.os=w.os/\w'.tape=w.tape/\w'.output=w.output/\w.heap.size <= w'.heap.size) (hk:∀ k,k ≠ B->k < w.heap.size->w'.heap[k]?=w.heap[k]?)
 (mz:∀ q o,q ≠ B->g'.bS q o=g.bS q o) (SO:∀ q,q ≠ B->g'.bI q=g.bI q)
 (hi:∀ o u,g'.bS B o=some u->w'.cell? ⟨B,o,none⟩=some u/\u.oneCell'=true) (hm:∀ es c,g'.bI B=some (es,c)->w'.heap[B]?=some (.map es c)/\jJ es c)
 (hX:∀ b x p,U.live b=some x->g.place b=some p->p.aE ≠ B) (abk:g.res B=false):a8 g' U w':=by
 have aO:∀ k o,w.heap[k]?=some o->k ≠ B->w'.heap[k]?=some o:=fun k o hko hn=>by rw [hk k hn (jR.1 hko).1]; exact hko
 exact {
  below:=by
   rw [hle.base,hle.w0]
   exact h.below.trans ⟨hw.1,hw.2.1,hw.2.2.1,hw.2.2.2,fun k hkb=>hk k (by omega) (by have:=h.le; omega)⟩
  le:=by rw [hle.base]; exact Nat.le_trans h.le hw.2.2.2
  bS:=fun q o u hu=>by
   by_cases hq:q=B
   . subst hq; exact hi o u hu
   . rw [mz q o hq] at hu
     rw [D9 (hk q hq (h.MG hu))]; exact h.bS _ _ _ hu
  bI:=fun r es c hr=>by
   by_cases hq:r=B
   . subst hq; exact hm es c hr
   . rw [SO r hq] at hr
     rw [hk r hq (h.II hr)]; exact h.bI _ _ _ hr
  live:=fun b x hb=>by
   obtain ⟨p,h1,h2,h3⟩:=h.live b x hb
   have IB:=hX b x p hb h1
   refine ⟨p,by rw [k9]; exact h1,by rw [hle.base]; exact h2,h3.frame hle.r (hk _ IB h3.lt) (fun o=>mz _ _ IB) (SO _ IB)⟩
  apart:=fun b b' x x' p p' h1 h2 h3 h4 h5=>by rw [k9] at h3 h4; exact h.apart b b' x x' p p' h1 h2 h3 h4 h5
  res:=fun r hr=>by
   rw [hres] at hr
   obtain ⟨h1,h2⟩:=h.res r hr
   rw [hle.base]
   exact ⟨h1,aO _ _ h2 (fun e=>by subst e; rw [abk] at hr; cases hr)⟩
  fin:=by rw [k9]; exact h.fin }
theorem a8.named {g:Gh} {U:St} {w:World} (h:a8 g U w) {b:Nat} {p:Place} {x:Live} (hb:g.place b=some p) (hB:g.base <= p.aE) (hx:kh g w p x)
 (hX:∀ b' x' p',b' ≠ b->U.live b'=some x'->g.place b'=some p'->p'.aE ≠ p.aE):a8 g (U.set b x) w where
 below:=h.below
 le:=h.le
 bS:=h.bS
 bI:=h.bI
 live:=fun b' x' eH=>by
  simp only [St.set] at eH
  split at eH
  . rename_i e; subst e; cases eH; exact ⟨p,hb,hB,hx⟩
  . exact h.live b' x' eH
 apart:=fun b1 b2 x1 x2 p1 p2 h1 h2 h3 h4 h5=>by
  simp only [St.set] at h1 h2
  by_cases e1:b1=b <;> by_cases e2:b2=b
  . rw [e1,e2]
  . rw [if_neg e2] at h2
    subst e1; rw [hb] at h3; cases h3
    exact absurd h5.symm (hX _ _ _ e2 h2 h4)
  . rw [if_neg e1] at h1
    subst e2; rw [hb] at h4; cases h4
    exact absurd h5 (hX _ _ _ e1 h1 h3)
  . rw [if_neg e1] at h1; rw [if_neg e2] at h2
    exact h.apart _ _ _ _ _ _ h1 h2 h3 h4 h5
 res:=h.res
 fin:=h.fin
def Gh.mT (g:Gh) (b:Nat) (p:Place):Gh:={ g with place:=fun y=>if y=b then some p else g.place y }
theorem Gh.ja (g:Gh) (b:Nat) (p:Place):(g.mT b p).place b=some p:=by simp [Gh.mT]
theorem Gh.mj (g:Gh) {b y:Nat} (p:Place) (h:y ≠ b):(g.mT b p).place y=g.place y:=by simp [Gh.mT,h]
theorem Gh.zx {g:Gh} {b:Nat} (p:Place) (h:g.place b=none):Gh.Le g (g.mT b p) :=
 ⟨rfl,rfl,fun y x hy=>by rw [Gh.mj _ _ (fun e=>by subst e; rw [h] at hy; cases hy)]; exact hy,fun _ _ _ h=>h,fun _ _ h=>h,fun _ h=>h,fun _ _ _=>rfl,fun _ _=>rfl⟩
theorem a8.newName {g:Gh} {U:St} {w:World} (h:a8 g U w) (p:Place) (hB:g.base <= p.aE) (hX:∀ b' x' p',U.live b'=some x'->g.place b'=some p'->p'.aE ≠ p.aE) :
 ∃ b,U.cY b/\Gh.Le g (g.mT b p)/\∀ x,kh (g.mT b p) w p x->a8 (g.mT b p) (U.new b x) w:=by
 obtain ⟨N,hN1,hN2⟩:=h.fin
 have zn:g.place N=none:=hN2 N (dk _)
 have hln:U.live N=none:=by
  cases e:U.live N with
  | none=>rfl
  | some x=>obtain ⟨p,h1,_⟩:=h.live N x e; rw [zn] at h1; cases h1
 refine ⟨N,⟨hln,hN1⟩,Gh.zx p zn,fun x hx=>?_⟩
 have hle:=Gh.zx (g:=g) p zn
 have bT:∀ b x,U.live b=some x->b ≠ N:=fun b x hb e=>by subst e; rw [hln] at hb; cases hb
 exact {
  below:=h.below
  le:=h.le
  bS:=h.bS
  bI:=h.bI
  live:=fun b' x' eH=>by
   simp only [St.new] at eH
   split at eH
   . rename_i e; subst e; cases eH; exact ⟨p,Gh.ja _ _ _,hB,hx⟩
   . obtain ⟨p',h1,h2,h3⟩:=h.live b' x' eH
     exact ⟨p',hle.place _ _ h1,h2,h3.frame hle.r rfl (fun _=>rfl) rfl⟩
  apart:=fun b1 b2 x1 x2 p1 p2 h1 h2 h3 h4 h5=>by
   simp only [St.new] at h1 h2
   by_cases e1:b1=N <;> by_cases e2:b2=N
   . rw [e1,e2]
   . rw [if_neg e2] at h2; rw [Gh.mj _ _ e2] at h4
     subst e1; rw [Gh.ja] at h3; cases h3
     exact absurd h5.symm (hX _ _ _ h2 h4)
   . rw [if_neg e1] at h1; rw [Gh.mj _ _ e1] at h3
     subst e2; rw [Gh.ja] at h4; cases h4
     exact absurd h5 (hX _ _ _ h1 h3)
   . rw [if_neg e1] at h1; rw [if_neg e2] at h2
     rw [Gh.mj _ _ e1] at h3; rw [Gh.mj _ _ e2] at h4
     exact h.apart _ _ _ _ _ _ h1 h2 h3 h4 h5
  res:=h.res
  fin:=⟨N+1,fun n hn=>by
   simp only [St.new,nX] at hn
   obtain ⟨m,hm,rfl⟩:=hn
   rw [hN1 m hm],fun b hb=>by rw [Gh.mj _ _ (by omega)]; exact hN2 b (by omega)⟩ }
theorem a8.grow {g:Gh} {U:St} {w w':World} (h:a8 g U w) (hg:w.grownBy w' none):a8 g U w':=by
 have hb:∀ k,k < w.heap.size->w'.heap[k]?=w.heap[k]?:=fun k hk=>hg.block k hk (by simp)
 refine h.change w.heap.size h.le (Gh.Le.refl g) rfl rfl ⟨hg.os,hg.tape,hg.output,hg.size⟩ (fun k _ hk=>hb k hk) (fun _ _ _=>rfl) (fun _ _=>rfl) (fun o u hu=>?_) (fun es c hr=>?_) (fun b x p h1 h2=>?_) ?_
 . rw [h.yI (dk _)] at hu; cases hu
 . rw [h.vE (dk _)] at hr; cases hr
 . obtain ⟨p',k1,_,k3⟩:=h.live b x h1
   rw [h2] at k1; cases k1
   exact Nat.ne_of_lt k3.lt
 . cases e:g.res w.heap.size with
   | false=>rfl
   | true=>have:=(jR.1 (h.res _ e).2).1; omega
theorem jM (w:World):w.grownBy w.drew none:=⟨rfl,rfl,rfl,dk _,fun _ _ _=>rfl⟩
theorem a8.CG {g:Gh} {U:St} {w:World} (h:a8 g U w) {q:Nat} (hq:w.heap.size <= q):g.res q=false:=by
 cases e:g.res q with
 | false=>rfl
 | true=>have:=(jR.1 (h.res _ e).2).1; omega
theorem a8.vR {g:Gh} {U:St} {w:World} (h:a8 g U w) {b:Nat} {x:Live} {p:Place} (hb:U.live b=some x) (hp:g.place b=some p):p.aE < w.heap.size:=by
 obtain ⟨p',k1,_,k3⟩:=h.live b x hb
 rw [hp] at k1; cases k1
 exact k3.lt
theorem a8.sG {g:Gh} {U:St} {w:World} (h:a8 g U w) {b:Nat} {x:Live} {p:Place} (hb:U.live b=some x) (hp:g.place b=some p):g.res p.aE=false:=by
 cases e:g.res p.aE with
 | false=>rfl
 | true =>
   obtain ⟨p',k1,_,k3⟩:=h.live b x hb
   rw [hp] at k1; cases k1
   exact absurd rfl (k3.IV (h.res _ e).2)
theorem a8.sr {g:Gh} {U:St} {w:World} (h:a8 g U w) (o:Obj) (e:TypeId) (size:Nat) (x:Live)
 (hx:∀ g',Gh.Le g g'->(∀ o,g'.bS w.heap.size o=none)->g'.bI w.heap.size=none->kh g' (w.alloc o) ⟨w.heap.size,e,size⟩ x) :
 ∃ b g',U.cY b/\Gh.Le g g'/\g'.place b=some ⟨w.heap.size,e,size⟩/\a8 g' (U.new b x) (w.alloc o):=by
 have hs:=h.grow (w.grownBy_alloc o none)
 obtain ⟨b,h1,h2,h3⟩:=hs.newName ⟨w.heap.size,e,size⟩ h.le (fun b' x' p' k1 k2=>Nat.ne_of_lt (h.vR k1 k2))
 exact ⟨b,_,h1,h2,Gh.ja _ _ _,h3 x (hx _ h2 (fun o=>h.yI (dk _) o) (h.vE (dk _)))⟩
end Go.Rip
namespace Go.Rip
open Go.RowKit
def St.bW (U:St) (b:Nat) (l:List AV):St:=U.set b (.box l)
def St.abI (U:St) (b:Nat) (kv:List AV × List AV):St:=U.set b (.mp kv.1 kv.2)
theorem a8.box {g:Gh} {U:St} {w:World} (h:a8 g U w) (b:Nat) (l:List AV) (hb:U.box b=some l):∃ x cur vs rest,g.box b=some x/\g.base <= x.aE/\w.heap[x.aE]?=some (.cells cur x.e (0,0))/\cur.size=x.size/\cur.toList=vs++rest/\az g l vs /\
 (∀ u ∈ cur.toList,u.oneCell'=true)/\(∀ o,g.bS x.aE o=none):=by
 obtain ⟨y,hy,Yv⟩:=St.rU hb
 obtain ⟨p,h1,h2,hp⟩:=h.live b _ hy
 obtain ⟨cur,vs,rest,h3,h4,h5,h6,h7,h8⟩:=Yv _ _ _ hp
 exact ⟨p,cur,vs,rest,h1,h2,h3,h4,h5,h6,h7,h8⟩
theorem a8.tok {g:Gh} {U:St} {w:World} (h:a8 g U w) (τ:Nat) (t:Tok) (ht:U.tok τ=some t):∃ aE c cur,g.tok τ=some (aE,c)/\g.base <= aE/\w.heap[aE]?=some (.cells cur t.e (0,0))/\cur.size=c * t.size/\t.n <= c/\c <= maxLen /\
 (∀ o,t.n * t.size <= o->g.bS aE o=none):=by
 obtain ⟨p,h1,h2,cur,h3,h4,h5,h6,h7⟩:=h.live τ _ (St.jI.1 ht)
 exact ⟨p.aE,p.size,cur,Gh.jI.2 ⟨p,h1,rfl,rfl⟩,h2,h3,h4,h5,h6,h7⟩
theorem a8.mp {g:Gh} {U:St} {w:World} (h:a8 g U w) (m:Nat) (kv:List AV × List AV) (hm:U.mp m=some kv):∃ r es clock,g.mp m=some r/\g.base <= r/\w.heap[r]?=some (.map es clock)/\jJ es clock/\vi g kv.1 kv.2 es/\g.bI r=none:=by
 obtain ⟨p,h1,h2,es,clock,h3,h4,h5,h6⟩:=h.live m _ (St.ou.1 hm)
 exact ⟨p.aE,es,clock,Gh.ou.2 ⟨p,h1,rfl⟩,h2,h3,h4,h5,h6⟩
theorem a8.rewrite {g:Gh} {U:St} {w w':World} (h:a8 g U w) {b:Nat} {x x':Live} {p:Place} (hb:U.live b=some x) (hp:g.place b=some p)
 (hw:w'.os=w.os/\w'.tape=w.tape/\w'.output=w.output/\w.heap.size <= w'.heap.size) (hk:∀ k,k ≠ p.aE->k < w.heap.size->w'.heap[k]?=w.heap[k]?)
 (hi:∀ o,g.bS p.aE o=none) (hm:g.bI p.aE=none) (hx:kh g w' p x'):a8 g (U.set b x') w':=by
 obtain ⟨p',k1,k2,k3⟩:=h.live b x hb
 rw [hp] at k1; cases k1
 have hX:∀ b' x' p',b' ≠ b->U.live b'=some x'->g.place b'=some p'->p'.aE ≠ p.aE:=fun b' x' p' bT h1 h2 e=>bT (h.apart _ _ _ _ _ _ h1 hb h2 hp e)
 have hd:∀ b' x' p',(U.del b).live b'=some x'->g.place b'=some p'->p'.aE ≠ p.aE:=fun b' x' p' h1 h2=>by
  simp only [St.del] at h1
  split at h1
  . cases h1
  . rename_i e; exact hX _ _ _ e h1 h2
 have h1:=(h.weaken (St.rV U b)).change p.aE k2 (Gh.Le.refl g) rfl rfl hw hk (fun _ _ _=>rfl) (fun _ _=>rfl) (fun o u hu=>by rw [hi] at hu; cases hu) (fun es c hr=>by rw [hm] at hr; cases hr) hd (h.sG hb hp)
 have h2:=h1.named hp k2 hx (fun b' x' p' _ q1 q2=>hd b' x' p' q1 q2)
 have e:(U.del b).set b x'=U.set b x':=by
  simp only [St.del,St.set,St.mk.injEq,and_true]
  funext y
  split <;> rfl
 rw [<- e]; exact h2
theorem a8.cP {g:Gh} {U:St} {w:World} (h:a8 g U w) (e:TypeId) (cur:Array Value) (vs rest:List Value) (l:List AV) (hc:cur.toList=vs++rest) (hl:az g l vs) (h1:∀ u ∈ cur.toList,u.oneCell'=true) :
 ∃ b g',U.cY b/\Gh.Le g g'/\g'.box b=some ⟨w.heap.size,e,cur.size⟩/\a8 g' (U.new b (.box l)) (w.alloc (.cells cur e)) :=
 h.sr (.cells cur e) e cur.size (.box l) fun g' hle hi hm=>⟨cur,vs,rest,heap_alloc_new w _,rfl,hc,hl.mono hle,h1,hi⟩
theorem a8.M7 {g:Gh} {U:St} {w:World} (h:a8 g U w) (e:TypeId) (cur:Array Value) (vs rest:List Value) (hc:cur.toList=vs++rest) (h1:∀ u ∈ cur.toList,u.oneCell'=true) :
 ∃ g',Gh.Le g g'/\kg g' w.heap.size 0 vs/\(∀ o,vs.length <= o->g'.bS w.heap.size o=none)/\g'.place=g.place/\a8 g' U (w.alloc (.cells cur e)):=by
 let g':Gh:={ g with bS:=fun aE o=>if aE=w.heap.size then vs[o]? else g.bS aE o }
 have oN:∀ o,g'.bS w.heap.size o=vs[o]?:=fun o=>by show (if w.heap.size=w.heap.size then _ else _)=_; rw [if_pos rfl]
 have hold:∀ aE o,aE ≠ w.heap.size->g'.bS aE o=g.bS aE o:=fun aE o hx=>by show (if aE=w.heap.size then _ else _)=_; rw [if_neg hx]
 have hle:Gh.Le g g':=⟨rfl,rfl,fun _ _ h=>h,fun aE o u hu=>by
  rw [hold _ _ (fun e=>by subst e; rw [h.yI (dk _)] at hu; cases hu)]; exact hu,fun _ _ h=>h,fun _ h=>h,fun q o hq=>hold _ _ (by have:=h.le; omega),fun _ _=>rfl⟩
 have hg:=w.grownBy_alloc (.cells cur e) none
 refine ⟨g',hle,fun i u hu=>by rw [cV,oN]; exact hu,fun o ho=>by rw [oN]; simpa using ho,rfl,?_⟩
 refine h.change w.heap.size h.le hle rfl rfl ⟨hg.os,hg.tape,hg.output,hg.size⟩ (fun k _ hk=>hg.block k hk (by simp)) (fun q o hq=>hold q o hq) (fun _ _=>rfl) (fun o u hu=>?_) (fun es c hr=>?_) (fun b x p k1 k2=>Nat.ne_of_lt (h.vR k1 k2)) (h.CG (dk _))
 . rw [oN] at hu
   have hcu:cur[o]?=some u:=by
    rw [<- jS,hc,ud (by
     rcases je o vs.length with h | h
     . exact h
     . simp [wb h] at hu)]
    exact hu
   exact ⟨by rw [cell_of_row _ _ _ cur e (0,0) (heap_alloc_new w _)]; exact hcu,h1 u (fj (by rw [jS]; exact hcu))⟩
 . have:g.bI w.heap.size=some (es,c):=hr
   rw [h.vE (dk _)] at this; cases this
theorem a8.lX {g:Gh} {U:St} {w:World} (h:a8 g U w) {r:Nat} {c:Array Value} {e:TypeId} {f:Nat × Nat} (hh:w.heap[r]?=some (.cells c e f)):g.bI r=none:=by
 cases e:g.bI r with
 | none=>rfl
 | some x=>have:=(h.bI r x.1 x.2 e).1; rw [hh] at this; cases this
theorem a8.setRow {g:Gh} {U:St} {w:World} (h:a8 g U w) {b:Nat} {l l':List AV} {x:Place} (hb:U.box b=some l) (hx:g.box b=some x)
 (cur:Array Value) (vs rest:List Value) (dQ:cur.size=x.size) (hc:cur.toList=vs++rest) (hl:az g l' vs) (h1:∀ u ∈ cur.toList,u.oneCell'=true) :
 a8 g (U.bW b l') (w.setRow x.aE cur):=by
 obtain ⟨x',Xk,vs0,abF,k1,k2,k3,k4,k5,k6,k7,k8⟩:=h.box b l hb
 rw [hx] at k1; cases k1
 obtain ⟨y,hy,_⟩:=St.rU hb
 exact h.rewrite hy hx ⟨rfl,rfl,rfl,by simp⟩ (fun k hk _=>setRow_other _ _ _ _ hk) k8 (h.lX k3) ⟨cur,vs,rest,setRow_heap w x.aE Xk cur x.e (0,0) k3,dQ,hc,hl,h1,k8⟩
theorem a8.abE {g:Gh} {U:St} {w:World} (h:a8 g U w) {b:Nat} {l:List AV} (hb:U.box b=some l):a8 g (U.bW b l) w:=by
 obtain ⟨y,hy,Yv⟩:=St.rU hb
 obtain ⟨p,h1,h2,hp⟩:=h.live b _ hy
 obtain ⟨cur,vs,rest,h3,h4,h5,h6,h7,h8⟩:=Yv _ _ _ hp
 exact h.rewrite hy h1 ⟨rfl,rfl,rfl,dk _⟩ (fun _ _ _=>rfl) h8 (h.lX h3) ⟨cur,vs,rest,h3,h4,h5,h6,h7,h8⟩
theorem Cv {cur cur':Array Value} {a:Nat} {news:List Value} (ha:a <= cur.size) (wK:cur'.toList=cur.toList.take a++news++cur.toList.drop (a+news.length)) (o:Nat) :
 cur'[o]?=if o < a then cur[o]? else if o < a+news.length then news[o - a]? else cur[o]?:=by
 rw [<- jS,wK,iM]
 have hl:(cur.toList.take a).length=a:=by simp; omega
 by_cases h1:o < a
 . rw [if_pos h1,ud (by omega),List.getElem?_take,if_pos h1,jS]
 . rw [if_neg h1,List.getElem?_append_right (by omega),hl]
   by_cases h2:o < a+news.length
   . rw [if_pos h2,ud (by omega)]
   . rw [if_neg h2,List.getElem?_append_right (by omega),List.getElem?_drop,jS]
     congr 1; omega
theorem a8.ZC {g:Gh} {U:St} {w:World} (h:a8 g U w) {τ:Nat} {t:Tok} {aE c:Nat} (ht:U.tok τ=some t) (hg:g.tok τ=some (aE,c))
 (cur cur':Array Value) (news:List Value) (m:Nat) (JU:w.heap[aE]?=some (.cells cur t.e (0,0))) (hlen:news.length=m * t.size) (nT:t.n+m <= c)
 (wK:cur'.toList=cur.toList.take (t.n * t.size)++news++cur.toList.drop (t.n * t.size+news.length)) (h1:∀ u ∈ news,u.oneCell'=true) :
 ∃ sN g',(U.del τ).cY sN/\Gh.Le g g'/\g'.tok sN=some (aE,c)/\kg g' aE (t.n * t.size) news/\a8 g' ((U.del τ).new sN (.tok ⟨t.n+m,t.e,t.size⟩)) (w.setRow aE cur'):=by
 obtain ⟨p,hp,IB,hpc⟩:=Gh.jI.1 hg
 dsimp only at IB hpc
 subst IB hpc
 obtain ⟨p',k1,k2,Xk,k3,k4,k5,k6,k7⟩:=h.live τ _ (St.jI.1 ht)
 rw [hp] at k1; cases k1
 rw [JU] at k3; cases k3
 have sb:(t.n+m) * t.size <= cur.size:=by rw [k4]; exact Nat.mul_le_mul_right _ nT
 have Dm:(t.n+m) * t.size=t.n * t.size+news.length:=by rw [hlen,Nat.add_mul]
 have dQ:cur'.size=cur.size:=by
  have:=congrArg List.length wK
  simp only [qT,dh,List.length_take,List.length_drop] at this
  omega
 let g':Gh:={ g with bS:=fun q o=>if q=p.aE/\t.n * t.size <= o/\o < t.n * t.size+news.length then news[o - t.n * t.size]? else g.bS q o }
 have mz:∀ q o,q ≠ p.aE->g'.bS q o=g.bS q o:=fun q o hq=>by
  show (if _ then _ else _)=_
  rw [if_neg (fun e=>hq e.1)]
 have hle:Gh.Le g g':=⟨rfl,rfl,fun _ _ h=>h,fun q o u hu=>by
  show (if _ then _ else _)=_
  rw [if_neg (fun e=>by obtain ⟨rfl,e2,_⟩:=e; rw [k7 o e2] at hu; cases hu)]; exact hu,fun _ _ h=>h,fun _ h=>h,fun q o hq=>mz _ _ (by omega),fun _ _=>rfl⟩
 have vD:=setRow_heap w p.aE cur cur' t.e (0,0) JU
 have qP:=fun o=>Cv (cur:=cur) (cur':=cur') (a:=t.n * t.size) (news:=news) (by omega) wK o
 have hX:∀ b' x' p',(U.del τ).live b'=some x'->g.place b'=some p'->p'.aE ≠ p.aE:=fun b' x' p' h1 h2 e=>by
  simp only [St.del] at h1
  split at h1
  . cases h1
  . rename_i ne; exact ne (h.apart _ _ _ _ _ _ h1 (St.jI.1 ht) h2 hp e)
 have hs:=(h.weaken (St.rV U τ)).change (w':=w.setRow p.aE cur') p.aE k2 hle rfl rfl ⟨rfl,rfl,rfl,by simp⟩ (fun k hk _=>setRow_other _ _ _ _ hk) mz (fun _ _=>rfl) (fun o u hu=>by
  rw [cell_of_row _ _ _ cur' t.e (0,0) vD,qP]
  have nN:(if p.aE=p.aE/\t.n * t.size <= o/\o < t.n * t.size+news.length then news[o - t.n * t.size]? else g.bS p.aE o)=some u:=hu
  by_cases ho:o < t.n * t.size
  . rw [if_pos ho]
    rw [if_neg (by omega)] at nN
    have:=h.bS _ _ _ nN
    rw [cell_of_row _ _ _ cur t.e (0,0) JU] at this
    exact this
  . rw [if_neg ho]
    by_cases S0:o < t.n * t.size+news.length
    . rw [if_pos S0]
      rw [if_pos ⟨rfl,by omega,S0⟩] at nN
      exact ⟨nN,h1 u (fj nN)⟩
    . rw [if_neg (by omega)] at nN
      rw [k7 o (by omega)] at nN; cases nN) (fun es c hr=>by
  have hr:g.bI p.aE=some (es,c):=hr
  rw [h.lX JU] at hr; cases hr) hX (h.sG (St.jI.1 ht) hp)
 obtain ⟨sN,f1,f2,f3⟩:=hs.newName p k2 hX
 refine ⟨sN,_,f1,hle.trans f2,Gh.jI.2 ⟨p,Gh.ja _ _ _,rfl,rfl⟩,fun i u hu=>?_,f3 _ ⟨cur',vD,by rw [dQ]; exact k4,nT,k6,fun o ho=>?_⟩⟩
 . have hi:i < news.length:=by
    rcases je i news.length with h | h
    . exact h
    . simp [wb h] at hu
   show (if _ then _ else _)=_
   rw [if_pos ⟨rfl,by omega,by omega⟩,Nat.add_sub_cancel_left]; exact hu
 . have ho:(t.n+m) * t.size <= o:=ho
   show (if _ then _ else _)=_
   rw [if_neg (by omega)]; exact k7 o (by omega)
theorem a8.rename {g:Gh} {U:St} {w:World} (h:a8 g U w) {b:Nat} {x:Live} {p:Place} (hb:U.live b=some x) (hp:g.place b=some p) :
 ∃ b' g',(U.del b).cY b'/\Gh.Le g g'/\g'.place b'=some p/\a8 g' ((U.del b).new b' x) w:=by
 obtain ⟨p',k1,k2,k3⟩:=h.live b x hb
 rw [hp] at k1; cases k1
 obtain ⟨b',f1,f2,f3⟩:=(h.weaken (St.rV U b)).newName p k2 (fun b' x' p' h1 h2 e=>by
  simp only [St.del] at h1
  split at h1
  . cases h1
  . rename_i ne; exact ne (h.apart _ _ _ _ _ _ h1 hb h2 hp e))
 exact ⟨b',_,f1,f2,Gh.ja _ _ _,f3 x (k3.frame f2.r rfl (fun _=>rfl) rfl)⟩
theorem a8.l8 {g:Gh} {U:St} {w:World} (h:a8 g U w) (e:TypeId) (size n c:Nat) (cur:Array Value) (vs rest:List Value) (hc:cur.toList=vs++rest) (h1:∀ u ∈ cur.toList,u.oneCell'=true)
 (xO:vs.length=n * size) (sb:cur.size=c * size) (Dl:n <= c) (uG:c <= maxLen) :
 ∃ τ g',U.cY τ/\Gh.Le g g'/\g'.tok τ=some (w.heap.size,c)/\kg g' w.heap.size 0 vs/\a8 g' (U.new τ (.tok ⟨n,e,size⟩)) (w.alloc (.cells cur e)):=by
 obtain ⟨g1,FI,mz,hX,k9,hs⟩:=h.M7 e cur vs rest hc h1
 obtain ⟨τ,f1,f2,f3⟩:=hs.newName ⟨w.heap.size,e,c⟩ (by rw [FI.base]; exact h.le) (fun b' x' p' k1 k2=>by rw [k9] at k2; exact Nat.ne_of_lt (h.vR k1 k2))
 exact ⟨τ,_,f1,FI.trans f2,Gh.jI.2 ⟨_,Gh.ja _ _ _,rfl,rfl⟩,mz,f3 _ ⟨cur,heap_alloc_new w _,sb,Dl,uG,fun o ho=>hX o (by rw [xO]; exact ho)⟩⟩
theorem a8.freeze {g:Gh} {U:St} {w:World} (h:a8 g U w) {b:Nat} {l:List AV} {x:Place} (hb:U.box b=some l) (hx:g.box b=some x) :
 ∃ g' vs,Gh.Le g g'/\g'.place=g.place/\kg g' x.aE 0 vs/\az g l vs/\a8 g' (U.del b) w:=by
 obtain ⟨x',cur,vs,rest,k1,k2,k3,k4,k5,k6,k7,k8⟩:=h.box b l hb
 rw [hx] at k1; cases k1
 let g':Gh:={ g with bS:=fun q o=>if q=x.aE then cur[o]? else g.bS q o }
 have oN:∀ o,g'.bS x.aE o=cur[o]?:=fun o=>by show (if x.aE=x.aE then _ else _)=_; rw [if_pos rfl]
 have hold:∀ q o,q ≠ x.aE->g'.bS q o=g.bS q o:=fun q o hq=>by show (if q=x.aE then _ else _)=_; rw [if_neg hq]
 have hle:Gh.Le g g':=⟨rfl,rfl,fun _ _ h=>h,fun q o u hu=>by
  rw [hold _ _ (fun e=>by subst e; rw [k8] at hu; cases hu)]; exact hu,fun _ _ h=>h,fun _ h=>h,fun q o hq=>hold _ _ (by omega),fun _ _=>rfl⟩
 refine ⟨g',vs,hle,rfl,fun i u hu=>by
  have hi:i < vs.length:=by
   rcases je i vs.length with h | h
   . exact h
   . simp [wb h] at hu
  rw [cV,oN,<- jS,k5,ud hi]; exact hu,k6,?_⟩
 obtain ⟨y,hy,_⟩:=St.rU hb
 refine (h.weaken (St.rV U b)).change x.aE k2 hle rfl rfl ⟨rfl,rfl,rfl,dk _⟩ (fun _ _ _=>rfl) hold (fun _ _=>rfl) (fun o u hu=>?_) (fun es c hr=>?_) (fun b' x' p' h1 h2 e=>?_) (h.sG hy hx)
 . rw [oN] at hu
   rw [cell_of_row _ _ _ cur x.e (0,0) k3]
   exact ⟨hu,k7 u (fj (by rw [jS]; exact hu))⟩
 . have hr:g.bI x.aE=some (es,c):=hr
   rw [h.lX k3] at hr; cases hr
 . simp only [St.del] at h1
   split at h1
   . cases h1
   . rename_i ne; exact ne (h.apart _ _ _ _ _ _ h1 hy h2 hx e)
theorem a8.ND {g:Gh} {U:St} {w:World} (h:a8 g U w) {m r:Nat} {kv kv':List AV × List AV} {es uy:Array MapEntry} {clock uw:Nat} (hm:U.mp m=some kv) (hg:g.mp m=some r) (hh:w.heap[r]?=some (.map es clock))
 (h1:vi g kv'.1 kv'.2 uy) (h2:jJ uy uw) :
 a8 g (U.abI m kv') { w with heap:=w.heap.setIfInBounds r (Obj.map uy uw) }:=by
 obtain ⟨p,hp,rfl⟩:=Gh.ou.1 hg
 obtain ⟨p',k1,k2,es0,cl0,k3,k4,k5,k6⟩:=h.live m _ (St.ou.1 hm)
 rw [hp] at k1; cases k1
 have aO:=(jR.1 hh).1
 have bT:∀ k,k ≠ p.aE->(w.heap.setIfInBounds p.aE (Obj.map uy uw))[k]?=w.heap[k]?:=fun k hk=>Array.getElem?_setIfInBounds_ne (Ne.symm hk)
 have oN:(w.heap.setIfInBounds p.aE (Obj.map uy uw))[p.aE]?=some (Obj.map uy uw):=by simp [aO]
 exact h.rewrite (St.ou.1 hm) hp ⟨rfl,rfl,rfl,by simp⟩ (fun k hk _=>bT k hk) (fun o=>by
  cases e:g.bS p.aE o with
  | none=>rfl
  | some u=>have:=(h.bS _ _ _ e).1; simp [World.cell?,hh] at this) k6 ⟨uy,uw,oN,h2,h1,k6⟩
theorem a8.shut {g:Gh} {U:St} {w:World} (h:a8 g U w) {r:Nat} (hr:g.res r=true):a8 { g with res:=fun x=>if x=r then false else g.res x } U { w with heap:=w.heap.setIfInBounds r (Obj.deferred none) }:=by
 obtain ⟨k2,hh⟩:=h.res r hr
 have bT:∀ k,k ≠ r->(w.heap.setIfInBounds r (Obj.deferred none))[k]?=w.heap[k]?:=fun k hk=>Array.getElem?_setIfInBounds_ne (Ne.symm hk)
 have hl:Gh.rT g { g with res:=fun x=>if x=r then false else g.res x }:=⟨fun _ _ h=>h,fun _ _ _ h=>h,fun _ _ h=>h⟩
 exact {
  below:=h.below.trans ⟨rfl,rfl,rfl,by simp,fun k hk=>bT k (by have:=h.le; omega)⟩
  le:=by simpa using h.le
  bS:=fun aE o u hi=>by
   have jA:=h.bS _ _ _ hi
   have:World.cell? { w with heap:=w.heap.setIfInBounds r (Obj.deferred none) } ⟨aE,o,none⟩=w.cell? ⟨aE,o,none⟩:=by
    simp only [World.cell?]
    rw [bT aE (fun e=>by subst e; simp [World.cell?,hh] at jA)]
   rw [this]; exact jA
  bI:=fun r' es c hr=>by
   obtain ⟨h1,h2⟩:=h.bI r' es c hr
   refine ⟨?_,h2⟩
   show (w.heap.setIfInBounds r (Obj.deferred none))[r']?=_
   rw [bT r' (fun e=>by subst e; rw [hh] at h1; cases h1)]; exact h1
  live:=fun b x hb=>by
   obtain ⟨p,h1,h2,h3⟩:=h.live b x hb
   exact ⟨p,h1,h2,h3.frame hl (bT _ (h3.IV hh)) (fun _=>rfl) rfl⟩
  apart:=h.apart
  res:=fun r' pU=>by
   have pU:(if r'=r then false else g.res r')=true:=pU
   split at pU
   . cases pU
   . rename_i e
     obtain ⟨q1,q2⟩:=h.res r' pU
     exact ⟨q1,by show (w.heap.setIfInBounds r (Obj.deferred none))[r']?=_; rw [bT r' e]; exact q2⟩
  fin:=h.fin }
theorem a8.U1 {g:Gh} {U:St} {w:World} (h:a8 g U w):Gh.Le g { g with res:=fun x=>if x=w.heap.size then true else g.res x }/\a8 { g with res:=fun x=>if x=w.heap.size then true else g.res x } U (w.alloc (.deferred (some []))):=by
 have hl:Gh.rT g { g with res:=fun x=>if x=w.heap.size then true else g.res x }:=⟨fun _ _ h=>h,fun _ _ _ h=>h,fun _ _ h=>h⟩
 refine ⟨⟨rfl,rfl,fun _ _ h=>h,fun _ _ _ h=>h,fun _ _ h=>h,fun b hb=>by show (if _ then _ else _)=_; split <;> simp_all,fun _ _ _=>rfl,fun _ _=>rfl⟩,?_⟩
 have hs:=h.grow (w.grownBy_alloc (.deferred (some [])) none)
 exact {
  below:=hs.below
  le:=hs.le
  bS:=hs.bS
  bI:=hs.bI
  live:=fun b x hb=>by
   obtain ⟨p,h1,h2,h3⟩:=hs.live b x hb
   exact ⟨p,h1,h2,h3.frame hl rfl (fun _=>rfl) rfl⟩
  apart:=hs.apart
  res:=fun r hr=>by
   have hr:(if r=w.heap.size then true else g.res r)=true:=hr
   split at hr
   . rename_i e; subst e; exact ⟨h.le,heap_alloc_new w _⟩
   . exact hs.res r hr
  fin:=hs.fin }
end Go.Rip
namespace Go.Rip
open Go.RowKit
def kJ:Value->Option AV
 | .bool b=>some (.bool b)
 | .int k n=>some (.int k n)
 | .string s=>some (.str s.data.toList)
 | .pointer none=>some .aV
 | .slice none 0 0=>some .aw
 | .map none=>some .jq
 | .nilFunc=>some .dj
 | .nilIface=>some .cJ
 | _=>none
def Qf:Option (List AV)->AV
 | some l=>.agg l
 | none=>.any
def C6:Value->AV
 | .agg cs=>Qf (cs.toList.mapM kJ)
 | .func fn f c=>if f.isEmpty && c.isEmpty then .func fn [] [] else .any
 | .tuple vs=>if vs.isEmpty then .aF [] else .any
 | v=>(kJ v).getD .any
def B7:TypeDesc->Bool
 | .struct _ | .array _ _=>true
 | _=>false
def mF (P:Program) (t:TypeId):Option (Bool × Nat) :=
 match P.info? t,P.underlying t with
 | some i,some d=>some (B7 d,i.size)
 | _,_=>none
def oL (P:Program) (t:TypeId):Option (List AV):=((P.info? t).bind (·.zero)).bind fun z=>z.cells.toList.mapM kJ
def eJ (P:Program) (t:TypeId):Option (TypeId × Nat) :=
 match P.underlying t with
 | some (.slice e)=>match P.info? e with
   | some i=>match i.zero with
     | some z=>if z.cells.size=i.size/\0 < i.size/\i.bytes <= 32768/\z.cells.all (·.oneCell') then some (e,i.size) else none
     | none=>none
   | none=>none
 | _=>none
def xu (P:Program) (s:TypeId) (f:Nat):Option Nat :=
 match P.underlying s with
 | some (.struct fields)=>match fields[f]? with
   | some x=>if P.cellsOf x.type ≠ 0 then some x.offset else none
   | none=>none
 | _=>none
def yU (P:Program) (t:TypeId):Option (List (Nat × Nat)) :=
 match P.underlying t with
 | some (.struct fields)=>if fields.all (fun f=>(P.info? f.type).isSome) then some (fields.toList.map fun f=>(f.offset,P.cellsOf f.type)) else none
 | _=>none
def dU (P:Program) (f:FuncId):Bool :=
 match P.funcs[f]? with
 | some fn=>fn.body.isSome && !(fn.name == "runtime.NumGoroutine")
 | none=>false
structure cq where
 P:Program
 xy:Nat->AV
 fixed:Nat->Option (Array Value):=fun _=>none
def gD (C:cq) (g:Gh):Prop:=(∀ i,ay g (C.xy i) (.pointer (some ⟨i,0,none⟩)))/\∀ i cs,C.fixed i=some cs->i < g.base/\∃ t fr,g.w0.heap[i]?=some (.cells cs t fr)
theorem gD.mono {C:cq} {g g':Gh} (h:gD C g) (hl:Gh.Le g g'):gD C g':=⟨fun i=>(h.1 i).mono hl,fun i cs hi=>by rw [hl.base,hl.w0]; exact h.2 i cs hi⟩
structure Env where
 get:Nat->AV
def Env.put (ρ:Env) (d:Nat) (v:AV):Env:=⟨fun t=>if t=d then v else ρ.get t⟩
def Env.dM (ρ:Env):Option Nat->AV->Env
 | some d,v=>ρ.put d v
 | none,_=>ρ
def Env.ev (C:cq) (ρ:Env):Operand->AV
 | .tmp t=>ρ.get t
 | .const v=>C6 v
 | .global g=>C.xy g
 | .func f=>.func (.func f) [] []
def ga (g:Gh) (ρ:Env) (tmps:Array Value):Prop:=∀ t,ay g (ρ.get t) (tmps.getD t undef)
theorem ga.mono {g g':Gh} (h:Gh.Le g g') {ρ:Env} {tmps:Array Value} (hr:ga g ρ tmps):ga g' ρ tmps:=fun t=>(hr t).mono h
theorem ga.put {g:Gh} {ρ:Env} {tmps:Array Value} (hr:ga g ρ tmps) {d:Nat} {x:AV} {v:Value} (hd:d < tmps.size) (hx:ay g x v):ga g (ρ.put d x) (tmps.setIfInBounds d v):=fun t=>by
 simp only [Env.put]
 by_cases ht:t=d
 . subst ht
   rw [if_pos rfl]
   simpa [Array.getD,hd] using hx
 . rw [if_neg ht]
   have:=hr t
   simp only [Array.getD_eq_getD_getElem?] at this ⊢
   rw [Array.getElem?_setIfInBounds_ne (Ne.symm ht)]
   exact this
theorem xZ {g:Gh} {v:Value} {x:AV} (h:kJ v=some x):ay g x v/\v.oneCell'=true:=by
 unfold kJ at h
 split at h <;> first
  | (cases h; simp [ay,Value.oneCell']; done)
  | cases h
theorem ef {g:Gh}:∀ {vs:List Value} {l:List AV},vs.mapM kJ=some l->az g l vs/\∀ u ∈ vs,u.oneCell'=true
 | [],l,h=>by
   simp at h; subst h; simp [az]
 | v::vs,l,h=>by
   simp only [List.mapM_cons,bind,Option.bind_eq_some_iff,pure,gK] at h
   obtain ⟨x,hx,l',Dk,rfl⟩:=h
   obtain ⟨h1,h2⟩:=xZ (g:=g) hx
   obtain ⟨h3,h4⟩:=ef (g:=g) Dk
   refine ⟨by simp only [az]; exact ⟨v,vs,rfl,h1,h3⟩,fun u hu=>?_⟩
   simp only [cD] at hu
   rcases hu with rfl | hu
   . exact h2
   . exact h4 u hu
theorem KO {g:Gh} (v:Value):ay g ((kJ v).getD .any) v:=by
 cases h:kJ v with
 | none=>simp only [Option.getD_none,ay]
 | some x=>exact (xZ h).1
theorem Cd {g:Gh} (v:Value):ay g (C6 v) v:=by
 cases v with
 | agg cs =>
   simp only [C6]
   cases h:cs.toList.mapM kJ with
   | none=>simp only [Qf,ay]
   | some l=>simp only [Qf,ay]; exact ⟨cs.toList,by simp,(ef (g:=g) h).2,(ef h).1⟩
 | func fn f c =>
   simp only [C6]
   split
   . rename_i h
     simp only [bL,Array.isEmpty_iff] at h
     obtain ⟨rfl,rfl⟩:=h
     simp only [ay]; exact ⟨[],[],rfl,by simp [az],by simp [az]⟩
   . simp only [ay]
 | tuple vs =>
   simp only [C6]
   split
   . rename_i h
     simp only [Array.isEmpty_iff] at h
     subst h
     simp only [ay]; exact ⟨[],rfl,by simp [az]⟩
   . simp only [ay]
 | _=>simp only [C6]; exact KO _
theorem rX {C:cq} {g:Gh} (hG:gD C g) {ρ:Env} {a:Act} (hr:ga g ρ a.tmps) (x:Operand):ay g (ρ.ev C x) (a.eval x):=by
 cases x with
 | tmp t=>exact hr t
 | const v=>exact Cd v
 | global i=>exact hG.1 i
 | func f=>simp only [Env.ev,Act.eval,ay]; exact ⟨[],[],rfl,by simp [az],by simp [az]⟩
inductive NV where
 | box
 | tok (n:Nat) (l:List AV)
 | ms (n ir:Nat) (e:TypeId)
 | mp
 | it
def NV.at (b:Nat):NV->AV
 | .box=>.box b 0
 | .tok n l=>.vec n (.own b) l
 | .ms n ir e=>.ms b 0 n ir e
 | .mp=>.mp b
 | .it=>.it b
inductive aD where
 | val (v:AV)
 | gx (v:AV) (b:Nat) (x:Live)
 | new (k:NV) (del:Option Nat) (x:Live)
 | ki (b:Nat) (l:List (AV × Live))
 | enter (f:FuncId) (args:List AV)
 | yield (l:Nat) (args:List AV)
 | panic (v:AV)
 | cond (p:Prop) [d:Decidable p] (r:aD)
 | bad
abbrev aD.cP (l:List AV):aD:=.new .box none (.box l)
abbrev aD.l8 (n:Nat) (l:List AV) (del:Option Nat) (t:Tok):aD:=.new (.tok n l) del (.tok t)
abbrev aD.nF (n ir:Nat) (e:TypeId) (del:Option Nat) (l:List AV):aD:=.new (.ms n ir e) del (.box l)
abbrev aD.tj:aD:=.new .mp none (.mp [] [])
def St.qO (U:St):Option Nat->St
 | some b=>U.del b
 | none=>U
def aD.Fits (C:cq) (g:Gh) (U:St):aD->Result Next->Prop
 | .val v,res=>∃ u w' g',(res=.ok (.value u) w'\/(res=.ok .skip w'/\u=undef))/\Gh.Le g g'/\a8 g' U w'/\ay g' v u
 | .gx v b x,res=>∃ u w' g',(res=.ok (.value u) w'\/(res=.ok .skip w'/\u=undef))/\Gh.Le g g'/\a8 g' (U.set b x) w'/\ay g' v u
 | .new k del x,res=>∃ u w' g' b,res=.ok (.value u) w'/\(U.qO del).cY b/\Gh.Le g g'/\a8 g' ((U.qO del).new b x) w'/\ay g' (k.at b) u
 | .ki b l,res=>∃ u w' g' v x,res=.ok (.value u) w'/\(v,x) ∈ l/\Gh.Le g g'/\a8 g' (U.set b x) w'/\ay g' v u
 | .enter f args,res=>∃ vs w',res=.ok (.enter f (List.toArray vs)) w'/\a8 g U w'/\az g args vs
 | .yield o args,res=>∃ vs x w w',g.place o=some x/\res=(Instr.yield x.aE (List.toArray vs)).run C.P w/\w'=w/\a8 g U w/\az g args vs
 | .panic v,res=>∃ u w',res=.halt (.panic u) w'/\a8 g U w'/\ay g v u
 | @aD.cond p _ r,res=>p->r.Fits C g U res
 | .bad,_=>True
theorem aT {C:cq} {g:Gh} {U:St} {w:World} {v:AV} {u:Value} (h:a8 g U w) (hr:ay g v u):aD.Fits C g U (.val v) (.ok (.value u) w) :=
 ⟨u,w,g,.inl rfl,Gh.Le.refl g,h,hr⟩
def uo (n:Int):Prop:=-9223372036854775808 <= n/\n <= 9223372036854775807
instance (n:Int):Decidable (uo n):=inferInstanceAs (Decidable (_/\_))
theorem wB {n:Int} (h:uo n):IntKind.i64.wrap n=n:=by
 obtain ⟨h1,h2⟩:=h
 have e:IntKind.i64.wrap n=if n % 18446744073709551616 >= 9223372036854775808 then n % 18446744073709551616 - 18446744073709551616 else n % 18446744073709551616:=by
  simp [IntKind.wrap,IntKind.bits,IntKind.signed]
 rw [e]
 split <;> omega
def uU (P:Program) (t:TypeId):Bool:=match P.underlying t with | some .bool=>true | _=>false
def jP (P:Program) (t:TypeId):Bool:=match P.underlying t with | some (.interface _)=>true | _=>false
def lh (P:Program) (t:TypeId):Bool:=match P.underlying t with | some (.pointer _)=>true | _=>false
def oO (P:Program) (t:TypeId):Bool:=match P.underlying t with | some (.slice _)=>true | _=>false
def gP (k:IntKind) (n:Int):aD :=
 match k with
 | .i64=>.cond (uo n) (.val (.int .i64 n))
 | k=>.val (.int k (k.wrap n))
inductive FK where
 | i
 | s
 | b
def od:List FK->List AV->List AV->Option Bool
 | [],[],[]=>some true
 | .i::ks,.int k a::xs,.int k' b::ys=>if k=k' then (od ks xs ys).map fun r=>(a == b) && r else none
 | .s::ks,.str a::xs,.str b::ys=>(od ks xs ys).map fun r=>(a == b) && r
 | .b::ks,.bool a::xs,.bool b::ys=>(od ks xs ys).map fun r=>(a == b) && r
 | _,_,_=>none
def LU (P:Program) (f:Field) (i:Nat):Option FK :=
 if f.offset=i/\f.name ≠ "_" then
  match P.underlying f.type with
  | some .bool=>some .b
  | some (.int _)=>some .i
  | some .string=>some .s
  | _=>none
 else none
def uz (P:Program):List Field->Nat->Option (List FK)
 | [],_=>some []
 | f::fs,i=>match LU P f i,uz P fs (i+1) with
   | some k,some ks=>some (k::ks)
   | _,_=>none
def JI (P:Program) (t:TypeId):Option (List FK) :=
 match P.underlying t with
 | some (.struct fields)=>if P.stoodInHeld t=false/\P.eqGuardType P.depth t=false then uz P fields.toList 0 else none
 | _=>none
def Im (P:Program) (t:TypeId) (a b:List AV):Option Bool :=
 match JI P t with
 | some ks=>od ks a b
 | none=>none
def wq (f:Bool->AV):Option Bool->aD
 | some r=>.val (f r)
 | none=>.bad
def Jq (P:Program) (op:BinOp) (t:TypeId) (x y:AV):aD :=
 match op,x,y with
 | .add,.int k a,.int k' b=>if k=k' then gP k (a+b) else .bad
 | .sub,.int k a,.int k' b=>if k=k' then gP k (a - b) else .bad
 | .mul,.int k a,.int k' b=>if k=k' then gP k (a * b) else .bad
 | .quo,.int k a,.int k' b=>if k=k' then .cond (b ≠ 0) (gP k (a.tdiv b)) else .bad
 | .rem,.int k a,.int k' b=>if k=k' then .cond (b ≠ 0) (.val (.int k (a.tmod b))) else .bad
 | .and,.int k a,.int k' b=>if k=k' then .val (.int k (k.wrap (BitVec.ofInt k.bits a &&& BitVec.ofInt k.bits b).toNat)) else .bad
 | .or,.int k a,.int k' b=>if k=k' then .val (.int k (k.wrap (BitVec.ofInt k.bits a ||| BitVec.ofInt k.bits b).toNat)) else .bad
 | .eql,.int k a,.int k' b=>if k=k' then .val (.bool (a == b)) else .bad
 | .neq,.int k a,.int k' b=>if k=k' then .val (.bool (a != b)) else .bad
 | .lss,.int k a,.int k' b=>if k=k' then .val (.bool (decide (a < b))) else .bad
 | .leq,.int k a,.int k' b=>if k=k' then .val (.bool (decide (a <= b))) else .bad
 | .gtr,.int k a,.int k' b=>if k=k' then .val (.bool (decide (a > b))) else .bad
 | .geq,.int k a,.int k' b=>if k=k' then .val (.bool (decide (a >= b))) else .bad
 | .eql,.str a,.str b=>.val (.bool (a == b))
 | .neq,.str a,.str b=>.val (.bool (a != b))
 | .add,.str a,.str b=>.cond (a.length+b.length <= 4294967296) (.val (.str (a++b)))
 | .eql,.bool a,.bool b=>if uU P t=true then .val (.bool (a == b)) else .bad
 | .neq,.bool a,.bool b=>if uU P t=true then .val (.bool (a != b)) else .bad
 | .eql,.agg a,.agg b=>wq .bool (Im P t a b)
 | .neq,.agg a,.agg b=>wq (fun r=>.bool (!r)) (Im P t a b)
 | .eql,.iface _ _,.cJ=>if jP P t=true then .val (.bool false) else .bad
 | .neq,.iface _ _,.cJ=>if jP P t=true then .val (.bool true) else .bad
 | .eql,.aV,.aV=>if lh P t=true then .val (.bool true) else .bad
 | .eql,.box _ _,.aV=>if lh P t=true then .val (.bool false) else .bad
 | .neq,.aV,.aV=>if lh P t=true then .val (.bool false) else .bad
 | .neq,.box _ _,.aV=>if lh P t=true then .val (.bool true) else .bad
 | .eql,.cn _,.aV=>if lh P t=true then .val (.bool false) else .bad
 | .neq,.cn _,.aV=>if lh P t=true then .val (.bool true) else .bad
 | .eql,.aw,.aw=>if oO P t=true then .val (.bool true) else .bad
 | .eql,.vec _ _ _,.aw=>if oO P t=true then .val (.bool false) else .bad
 | .eql,.ms _ _ _ _ _,.aw=>if oO P t=true then .val (.bool false) else .bad
 | _,_,_=>.bad
def isLit:Operand->Bool
 | .const _=>true
 | _=>false
def EZ (P:Program) (op:BinOp) (t:TypeId) (lit:Bool) (x y:AV):aD :=
 match op,x,y with
 | .eql,.cJ,.cJ=>if jP P t=true/\lit=true then .val (.bool true) else .bad
 | .neq,.cJ,.cJ=>if jP P t=true/\lit=true then .val (.bool false) else .bad
 | op,x,y=>Jq P op t x y
end Go.Rip
namespace Go.Rip
open Go.RowKit
def AV.scalar:AV->Bool
 | .agg _ | .aF _ | .any=>false
 | _=>true
def au:AV->List AV
 | .agg l=>l
 | v=>[v]
theorem CI {g:Gh} {x:AV} {v:Value} (h:ay g x v) (hs:x.scalar=true):v.oneCell'=true:=by
 cases x <;> simp only [AV.scalar,bJ] at hs <;> simp only [ay] at h
 all_goals first
  | (subst h; rfl)
  | (obtain ⟨_,_,rfl⟩:=h; rfl)
  | (obtain ⟨_,_,_,rfl,_⟩:=h; rfl)
  | (obtain ⟨_,_,_,_,rfl,_⟩:=h; rfl)
  | (obtain ⟨_,_,_,rfl,_⟩:=h; rfl)
  | (obtain ⟨_,_,rfl,_⟩:=h; rfl)
  | (obtain ⟨_,rfl,_⟩:=h; rfl)
  | (obtain ⟨_,_,_,_,rfl,_⟩:=h; rfl)
def AV.cQ:AV->Bool
 | .aF _ | .any=>false
 | _=>true
theorem xk {g:Gh} {x:AV} {v:Value} (h:ay g x v) (hs:x.cQ=true):az g (au x) v.cells.toList/\∀ u ∈ v.cells.toList,u.oneCell'=true:=by
 by_cases ha:∃ l,x=.agg l
 . obtain ⟨l,rfl⟩:=ha
   simp only [ay] at h
   obtain ⟨vs,rfl,h1,h2⟩:=h
   exact ⟨by simpa [au,Value.cells] using h2,by simpa [Value.cells] using h1⟩
 . have Ta:x.scalar=true:=by cases x <;> simp_all [AV.cQ,AV.scalar]
   have h1:=CI h Ta
   have hc:au x=[x]:=by cases x <;> simp_all [au]
   have hv:v.cells=#[v]:=by cases v <;> simp_all [Value.cells,Value.oneCell']
   rw [hc,hv]
   exact ⟨by simp only [az]; exact ⟨v,[],rfl,h,rfl⟩,by simpa using h1⟩
def kX (U:St):AV->Option (List AV)
 | .box b off=>(U.box b).map (·.drop off)
 | .cn l=>some l
 | _=>none
theorem qp {g:Gh} {U:St} {w:World} (h:a8 g U w) {p:AV} {v:Value} {l:List AV} (hp:ay g p v) (hl:kX U p=some l) :
 ∃ a vs,v=.pointer (some a)/\a.spot=none/\az g l vs/\∀ j u,vs[j]?=some u->w.cell? (a.add j)=some u/\u.oneCell'=true:=by
 have jN:∀ aE off j,(⟨aE,off,none⟩:Addr).add j=⟨aE,off+j,none⟩:=fun aE off j=>by unfold Addr.add; split <;> simp_all
 cases p <;> simp only [kX,reduceCtorEq] at hl
 . rename_i b off
   cases hb:U.box b with
   | none=>simp [hb] at hl
   | some l0 =>
     simp [hb] at hl
     subst hl
     simp only [ay] at hp
     obtain ⟨x,hx,rfl⟩:=hp
     obtain ⟨x',cur,vs,rest,k1,k2,k3,k4,k5,k6,k7,k8⟩:=h.box b l0 hb
     rw [hx] at k1; cases k1
     refine ⟨⟨x.aE,off,none⟩,vs.drop off,rfl,rfl,k6.drop off,fun j u hu=>?_⟩
     rw [jN,cell_of_row _ _ _ cur x.e (0,0) k3]
     rw [List.getElem?_drop] at hu
     have aO:off+j < vs.length:=by
      rcases je (off+j) vs.length with h | h
      . exact h
      . simp [wb h] at hu
     have:cur[off+j]?=some u:=by rw [<- jS,k5,ud aO]; exact hu
     exact ⟨this,k7 u (fj (by rw [jS]; exact this))⟩
 . cases hl
   simp only [ay] at hp
   obtain ⟨aE,off,vs,rfl,hi,hr⟩:=hp
   exact ⟨⟨aE,off,none⟩,vs,rfl,rfl,hr,fun j u hu=>by rw [jN]; exact h.bS _ _ _ (hi j u hu)⟩
def gJ:List AV->aD
 | x::_=>.val x
 | []=>.bad
def td (P:Program) (t:TypeId) (p:AV) (U:St):aD :=
 match mF P t,kX U p with
 | some (true,sz),some l=>.cond (sz <= l.length) (.val (.agg (l.take sz)))
 | some (false,_),some l=>gJ l
 | _,_=>.bad
theorem ny {P:Program} {t:TypeId} {b:Bool} {sz:Nat} (h:mF P t=some (b,sz)) :
 ∃ i d,P.info? t=some i/\P.underlying t=some d/\B7 d=b/\i.size=sz:=by
 unfold mF at h
 split at h
 . rename_i i d hi hd
   simp only [gK,ik] at h
   exact ⟨i,d,hi,hd,h.1,h.2⟩
 . cases h
theorem ky {P:Program} {t:TypeId} {d:TypeDesc} (h:P.underlying t=some d) (w:World):(isAgg t).run P w=.ok (B7 d) w:=by
 simp only [isAgg,bN,run_underlying h,ca]
 cases d <;> rfl
theorem eg {P:Program} {t:TypeId} {i:TypeInfo} (h:P.info? t=some i) (w:World):(sizeOf t).run P w=.ok i.size w:=by
 simp [sizeOf,typeInfo,h]
section
variable {C:cq} {g:Gh} {U:St} {w:World}
theorem Ks (h:a8 g U w) {t:TypeId} {p:AV} {v:Value} (hp:ay g p v):aD.Fits C g U (td C.P t p U) ((do let x <- Instr.loadAt t v; pure (Next.value x):Sem Next).run C.P w):=by
 unfold td
 split
 . rename_i b sz l hv hl
   obtain ⟨i,d,hi,hd,hb,dQ⟩:=ny hv
   obtain ⟨a,vs,rfl,ha,hr,hc⟩:=qp h hp hl
   intro hle
   have hlen:=hr.length
   have gi:(loadCells a (vs.take sz).length).run C.P w=.ok (vs.take sz).toArray w :=
    run_loadCells_list (P:=C.P) w a (vs.take sz) fun j u hu=>by
     rw [List.getElem?_take] at hu
     split at hu
     . exact (hc j u hu).1
     . cases hu
   have se:(vs.take sz).length=sz:=by simp; omega
   rw [se] at gi
   simp only [Instr.loadAt,Instr.sureAddr,loadVar,bN,ck,ca,ky hd,hb,if_true,eg hi,dQ,gi,eD]
   have L9:∀ u ∈ vs.take sz,u.oneCell'=true:=fun u hu=>by
    obtain ⟨j,hj⟩:=List.getElem?_of_mem hu
    rw [List.getElem?_take] at hj
    split at hj
    . exact (hc j u hj).2
    . cases hj
   exact aT h (by simp only [ay]; exact ⟨_,rfl,L9,hr.take sz⟩)
 . rename_i b sz l hv hl
   obtain ⟨i,d,hi,hd,hb,dQ⟩:=ny hv
   obtain ⟨a,vs,rfl,ha,hr,hc⟩:=qp h hp hl
   cases l with
   | nil=>trivial
   | cons x xs =>
     simp only [az] at hr
     obtain ⟨u,us,rfl,h1,h2⟩:=hr
     have:=(hc 0 u rfl).1
     have h0:a.add 0=a:=by simp [Addr.add]
     rw [h0] at this
     simp only [Instr.loadAt,Instr.sureAddr,loadVar,bN,ck,ca,ky hd,hb,bJ,if_false,run_load,this,eD]
     exact aT h h1
 . trivial
def aB (l:List AV) (off:Nat) (cs:List AV):List AV:=l.take off++cs++l.drop (off+cs.length)
def GY (P:Program) (t:TypeId) (p v:AV) (U:St):aD :=
 match mF P t,p with
 | some (_,sz),.box b off=>match U.box b with
   | some l=>.cond (v.cQ=true/\(au v).length=sz/\off+sz <= l.length) (.gx (.aF []) b (.box (aB l off (au v))))
   | none=>.bad
 | _,_=>.bad
theorem u5 (h:a8 g U w) {b off:Nat} {l:List AV} {x:Place} (hb:U.box b=some l) (hx:g.box b=some x) {cs:List AV} {us:List Value} (hr:az g cs us) (h1:∀ u ∈ us,u.oneCell'=true)
 (nT:off+cs.length <= l.length):∃ w',(storeCells ⟨x.aE,off,none⟩ us).run C.P w=.ok () w'/\a8 g (U.bW b (aB l off cs)) w':=by
 obtain ⟨x',cur,vs,rest,k1,k2,k3,k4,k5,k6,k7,k8⟩:=h.box b l hb
 rw [hx] at k1; cases k1
 have Mp:=hr.length
 have se:=k6.length
 have dQ:cur.size=vs.length+rest.length:=by rw [<- qT,k5,dh]
 have gi:=run_storeCells_at C.P x.aE off x.e us 0 cur w k3 (by omega) h1
 simp only [Nat.add_zero] at gi
 refine ⟨_,gi,?_⟩
 have e:cur.toList.take off++us++cur.toList.drop (off+us.length)=(vs.take off++us++vs.drop (off+us.length))++rest:=by
  rw [k5,List.take_append_of_le_length (by omega),List.drop_append_of_le_length (by omega)]
  simp
 refine h.setRow hb hx _ (vs.take off++us++vs.drop (off+us.length)) rest ?_ (by simpa using e) ?_ ?_
 . rw [<- qT]
   have:=congrArg List.length e
   simp only [dh,List.length_take,List.length_drop] at this
   simp only [dh,List.length_take,List.length_drop,qT] at this ⊢
   omega
 . unfold aB
   rw [Mp]
   exact ((k6.take off).append hr).append (k6.drop _)
 . intro u hu
   simp only [fB] at hu
   rcases hu with (hu | hu) | hu
   . exact k7 u (List.mem_of_mem_take hu)
   . exact h1 u hu
   . exact k7 u (List.mem_of_mem_drop hu)
theorem H2 (h:a8 g U w) {t:TypeId} {p x:AV} {v u:Value} (hp:ay g p v) (hx:ay g x u):aD.Fits C g U (GY C.P t p x U) ((do Instr.storeAt t v u; pure Next.skip:Sem Next).run C.P w):=by
 unfold GY
 split
 . rename_i bb sz b off hv
   split
   . rename_i l hb
     rintro ⟨h1,h2,h3⟩
     obtain ⟨i,d,hi,hd,_,dQ⟩:=ny hv
     obtain ⟨uF,zi⟩:=xk hx h1
     simp only [ay] at hp
     obtain ⟨y,hy,rfl⟩:=hp
     obtain ⟨w',gi,hs⟩:=u5 (C:=C) h hb hy uF zi (by rw [h2]; exact h3)
     have hlen:u.cells.size=sz:=by rw [<- qT,uF.length]; exact h2
     simp only [Instr.storeAt,Instr.sureAddr,storeVar,bN,ck,ca,eg hi,dQ,hlen,ne_eq,not_true_eq_false,if_false,eD,gi]
     exact ⟨undef,w',g,.inr ⟨rfl,rfl⟩,Gh.Le.refl g,hs,by simp only [ay]; exact ⟨[],rfl,by simp [az]⟩⟩
   . trivial
 . trivial
def EW (t:TypeId):List AV->aD
 | [.aV,.aw]=>.new .box none (.ri t [.aV,.aw])
 | l=>.cP l
def EV (P:Program) (t:TypeId):aD :=
 match oL P t with
 | some l=>EW t l
 | none=>.bad
theorem lV {P:Program} {t:TypeId} {l:List AV} (hz:oL P t=some l):∃ i z,P.info? t=some i/\i.zero=some z/\z.cells.toList.mapM kJ=some l:=by
 unfold oL at hz
 cases hi:P.info? t with
 | none=>simp [hi] at hz
 | some i =>
   cases sj:i.zero with
   | none=>simp [hi,sj] at hz
   | some z=>simp [hi,sj] at hz; exact ⟨i,z,rfl,sj,hz⟩
theorem fT {P:Program} {t:TypeId} {i:TypeInfo} {z:Value} (hi:P.info? t=some i) (hz:i.zero=some z) (w:World):(zeroValue t).run P w=.ok z w:=by
 simp [zeroValue,typeInfo,hi,hz]
theorem zA (h:a8 g U w) (e:TypeId) {l:List AV} {cur:Array Value} (hl:az g l cur.toList) (h1:∀ u ∈ cur.toList,u.oneCell'=true) :
 aD.Fits C g U (.cP l) (.ok (.value (.pointer (some ⟨w.heap.size,0,none⟩))) (w.alloc (.cells cur e))):=by
 obtain ⟨b,g',hb,hle,hx,hs⟩:=h.cP e cur cur.toList [] l (by simp) hl h1
 exact ⟨_,_,g',b,rfl,hb,hle,hs,by simp only [NV.at,ay]; exact ⟨_,hx,rfl⟩⟩
theorem Hk (h:a8 g U w) {t:TypeId}:aD.Fits C g U (EV C.P t) ((do let x <- Instr.alloc t true (.tuple #[]); pure (Next.value x):Sem Next).run C.P w):=by
 unfold EV
 split
 . rename_i l hz
   obtain ⟨i,z,hi,sj,hm⟩:=lV hz
   obtain ⟨h1,h2⟩:=ef (g:=g) hm
   simp only [Instr.alloc,newVar,newRow,bN,ck,ca,fT hi sj,run_newObj]
   unfold EW
   split
   . have hlen:=h1.length
     obtain ⟨b,g',hb,hle,hx,hs⟩:=h.sr (.cells z.cells t) t z.cells.size (.ri t [.aV,.aw]) fun g' hle hi hm=>⟨rfl,by simpa using hlen,z.cells,z.cells.toList,[],heap_alloc_new w _,rfl,by simp,h1.mono hle,h2,hi⟩
     exact ⟨_,_,g',b,rfl,hb,hle,hs,by simp only [NV.at,ay]; exact ⟨_,hx,rfl⟩⟩
   . exact zA h t h1 h2
 . trivial
def dT (v:AV):aD:=.cond (v.cQ=true) (.cP (au v))
theorem Lt (h:a8 g U w) {t:TypeId} {x:AV} {u:Value} (hx:ay g x u):aD.Fits C g U (dT x) ((do let y <- Instr.box t u; pure (Next.value y):Sem Next).run C.P w):=by
 intro hl
 obtain ⟨h1,h2⟩:=xk hx hl
 simp only [Instr.box,newVar,newRow,bN,ck,ca,run_newObj]
 exact zA h t h1 h2
def aY (x:AV):aD :=
 match x with
 | .box _ _ | .cn _ | .func (.func _) _ _=>.val x
 | _=>.bad
def vr (P:Program) (s:TypeId) (p:AV) (f:Nat):aD :=
 match xu P s f,p with
 | some o,.box b off=>.val (.box b (off+o))
 | some o,.cn l=>.val (.cn (l.drop o))
 | _,_=>.bad
theorem HB {P:Program} {s:TypeId} {f o:Nat} (h:xu P s f=some o):∃ fs x,P.underlying s=some (.struct fs)/\fs[f]?=some x/\P.cellsOf x.type ≠ 0/\x.offset=o:=by
 unfold xu at h
 split at h
 . rename_i fs hu
   split at h
   . rename_i x hx
     split at h
     . rename_i hc; cases h; exact ⟨fs,x,hu,hx,hc,rfl⟩
     . cases h
   . cases h
 . cases h
theorem vF {aE off n:Nat} {vs:List Value} (h:kg g aE off vs):kg g aE (off+n) (vs.drop n):=fun i u hu=>by
 rw [List.getElem?_drop] at hu
 have:=h (n+i) u hu
 rwa [Nat.add_assoc]
theorem AN (h:a8 g U w) {s f:Nat} {p:AV} {v:Value} (hp:ay g p v):aD.Fits C g U (vr C.P s p f) ((do let x <- Instr.fieldAt s v f; pure (Next.value x):Sem Next).run C.P w):=by
 have jN:∀ aE off j,(⟨aE,off,none⟩:Addr).add j=⟨aE,off+j,none⟩:=fun aE off j=>by unfold Addr.add; split <;> simp_all
 have key:∀ (o:Nat) (aE off:Nat),xu C.P s f=some o->v=.pointer (some ⟨aE,off,none⟩) ->
  ((do let x <- Instr.fieldAt s v f; pure (Next.value x):Sem Next).run C.P w)=.ok (.value (.pointer (some ⟨aE,off+o,none⟩))) w:=fun o aE off ho hv=>by
  obtain ⟨fs,x,hu,hx,hc,rfl⟩:=HB ho
  subst hv
  obtain ⟨i,hi,hic⟩:∃ i,C.P.info? x.type=some i/\i.size=C.P.cellsOf x.type:=by
   cases hi:C.P.info? x.type with
   | none=>simp [Program.cellsOf,hi] at hc
   | some i=>exact ⟨i,rfl,by simp [Program.cellsOf,hi]⟩
  simp only [Instr.fieldAt,bN,ck,ca,run_underlying hu,hx,Instr.sureAddr,fieldPlace,eg hi,hic,if_neg hc,eD,jN]
 unfold vr
 split
 . rename_i o b off ho
   simp only [ay] at hp
   obtain ⟨x,hx,hv⟩:=hp
   rw [key o x.aE off ho hv]
   exact aT h (by simp only [ay]; exact ⟨x,hx,rfl⟩)
 . rename_i o l ho
   simp only [ay] at hp
   obtain ⟨aE,off,vs,hv,hi,hr⟩:=hp
   rw [key o aE off ho hv]
   exact aT h (by simp only [ay]; exact ⟨aE,off+o,vs.drop o,rfl,vF hi,hr.drop o⟩)
 . trivial
theorem gL {P:Program} {t e:TypeId} {sz:Nat} (h:eJ P t=some (e,sz)) :
 ∃ i z,P.underlying t=some (.slice e)/\P.info? e=some i/\i.zero=some z/\z.cells.size=sz/\i.size=sz/\0 < sz/\i.bytes <= 32768/\(∀ u ∈ z.cells.toList,u.oneCell'=true):=by
 unfold eJ at h
 split at h
 . rename_i e' hu
   split at h
   . rename_i i hi
     split at h
     . rename_i z hz
       split at h
       . rename_i hc
         simp only [gK,ik] at h
         obtain ⟨rfl,rfl⟩:=h
         refine ⟨i,z,hu,hi,hz,hc.1,rfl,hc.2.1,hc.2.2.1,fun u hu=>?_⟩
         have:=hc.2.2.2
         rw [Array.all_eq_true_iff_forall_mem] at this
         exact this u (by simpa using hu)
       . cases h
     . cases h
   . cases h
 . cases h
def tM (P:Program) (t:TypeId):Option (Nat × TypeId × Nat) :=
 match P.underlying t with
 | some (.array n e)=>match P.info? e with
   | some i=>some (n,e,i.size)
   | none=>none
 | _=>none
theorem sP {P:Program} {t e:TypeId} {n sz:Nat} (h:tM P t=some (n,e,sz)):∃ i,P.underlying t=some (.array n e)/\P.info? e=some i/\i.size=sz:=by
 unfold tM at h
 split at h
 . rename_i n' e' hu
   split at h
   . rename_i i hi
     simp only [gK,ik] at h
     obtain ⟨rfl,rfl,rfl⟩:=h
     exact ⟨i,hu,hi,rfl⟩
   . cases h
 . cases h
def Ln (P:Program) (t:TypeId) (x i:AV):aD :=
 match tM P t,x,i with
 | some (n,_,sz),.cn l,.int _ j=>.cond (0 <= j/\j < n) (.val (.cn (l.drop (j.toNat * sz))))
 | some (n,_,sz),.box b off,.int _ j=>.cond (0 <= j/\j < n) (.val (.box b (off+j.toNat * sz)))
 | _,_,_=>.bad
def vG (P:Program) (t:TypeId) (x i:AV):aD :=
 match eJ P t,x,i with
 | none,x,i=>Ln P t x i
 | some (_,sz),.vec n _ l,.int _ j=>.cond (0 <= j/\j < n) (.val (.cn (l.drop (j.toNat * sz))))
 | some (_,sz),.ms b off n ir _,.int _ j=>.cond (0 <= j/\j < n/\ir=sz) (.val (.box b (off+j.toNat * sz)))
 | _,_,_=>.bad
theorem Bf (h:a8 g U w) {t:TypeId} {x y:AV} {v u:Value} (hx:ay g x v) (hy:ay g y u):aD.Fits C g U (vG C.P t x y) ((do let x <- Instr.indexAt t v u; pure (Next.value x):Sem Next).run C.P w):=by
 have jN:∀ aE off j,(⟨aE,off,none⟩:Addr).add j=⟨aE,off+j,none⟩:=fun aE off j=>by unfold Addr.add; split <;> simp_all
 have key:∀ (e:TypeId) (sz:Nat) (aE off n c:Nat) (k:IntKind) (j:Int),eJ C.P t=some (e,sz)->v=.slice (some ⟨aE,off,none⟩) n c->u=.int k j->0 <= j->j < n ->
  ((do let x <- Instr.indexAt t v u; pure (Next.value x):Sem Next).run C.P w)=.ok (.value (.pointer (some ⟨aE,off+j.toNat * sz,none⟩))) w:=fun e sz aE off n c k j ho hv hu h0 h1=>by
  obtain ⟨i,z,nN,hi,hz,_,dQ,_⟩:=gL ho
  subst hv hu
  simp only [Instr.indexAt,asIntOf,bN,ck,ca,run_underlying nN,h0,h1,and_self,if_true,eD,eg hi,dQ,jN]
 unfold vG
 split
 . unfold Ln
   split
   . rename_i n e sz l k j ha
     rintro ⟨h0,h1⟩
     obtain ⟨i,nN,hi,dQ⟩:=sP ha
     simp only [ay] at hx hy
     obtain ⟨aE,off,vs,rfl,jA,hr⟩:=hx
     subst hy
     simp only [Instr.indexAt,asIntOf,bN,ck,ca,run_underlying nN,Instr.sureAddr,h0,h1,and_self,if_true,eD,eg hi,dQ,jN]
     exact aT h (by simp only [ay]; exact ⟨aE,_,_,rfl,vF jA,hr.drop _⟩)
   . rename_i n e sz b off k j ha
     rintro ⟨h0,h1⟩
     obtain ⟨i,nN,hi,dQ⟩:=sP ha
     simp only [ay] at hx hy
     obtain ⟨x,hb,rfl⟩:=hx
     subst hy
     simp only [Instr.indexAt,asIntOf,bN,ck,ca,run_underlying nN,Instr.sureAddr,h0,h1,and_self,if_true,eD,eg hi,dQ,jN]
     exact aT h (by simp only [ay]; exact ⟨x,hb,rfl⟩)
   . trivial
 . rename_i e sz n cap l k j hs
   rintro ⟨h0,h1⟩
   simp only [ay] at hx hy
   obtain ⟨aE,off,c,vs,hv,_,_,_,hi,hr⟩:=hx
   rw [key e sz aE off n c k j hs hv hy h0 h1]
   exact aT h (by simp only [ay]; exact ⟨aE,_,_,rfl,vF hi,hr.drop _⟩)
 . rename_i e sz b off n ir e' k j hs
   rintro ⟨h0,h1,rfl⟩
   simp only [ay] at hx hy
   obtain ⟨x,c,hb,hv,_⟩:=hx
   rw [key e ir x.aE off n c k j hs hv hy h0 h1]
   exact aT h (by simp only [ay]; exact ⟨x,hb,rfl⟩)
 . trivial
def lY (P:Program) (t:TypeId):Bool:=match P.underlying t with | some .string=>true | _=>false
def Be (P:Program) (t:TypeId) (x i:AV):aD :=
 match x,i with
 | .str s,.int _ j=>if lY P t=true then .cond (0 <= j/\j < s.length) (.val (.int .u8 (s.getD j.toNat 0).toNat)) else .bad
 | .agg l,.int _ j=>match tM P t with
   | some (n,e,sz)=>match mF P e with
     | some (false,_)=>.cond (0 <= j/\j < n) (gJ (l.drop (j.toNat * sz)))
     | some (true,k)=>.cond (0 <= j/\j < n/\k=sz/\j.toNat * sz+sz <= l.length) (.val (.agg ((l.drop (j.toNat * sz)).take sz)))
     | none=>.bad
   | none=>.bad
 | _,_=>.bad
theorem ot {P:Program} {t:TypeId} (h:lY P t=true):P.underlying t=some .string:=by
 unfold lY at h
 split at h
 . assumption
 . cases h
theorem HH (h:a8 g U w) {t:TypeId} {x y:AV} {v u:Value} (hx:ay g x v) (hy:ay g y u):aD.Fits C g U (Be C.P t x y) ((do let x <- Instr.index t v u; pure (Next.value x):Sem Next).run C.P w):=by
 unfold Be
 split
 . rename_i s k j
   split
   . rename_i ht
     rintro ⟨h0,h1⟩
     simp only [ay] at hx hy
     subst hx hy
     have hj:j.toNat < s.length:=by omega
     have e:(ByteArray.mk s.toArray)[j.toNat]?=some (s.getD j.toNat 0):=by
      have dQ:(ByteArray.mk s.toArray).size=s.length:=by simp [ByteArray.size]
      rw [getElem?_pos _ _ (by rw [dQ]; exact hj)]
      simp [qf,nj hj]
      rfl
     simp only [Instr.index,asIntOf,bN,ck,ca,run_underlying (ot ht),h0,if_true,e]
     exact aT h (by simp only [ay])
   . trivial
 . rename_i l k j
   split
   . rename_i n e sz ha
     obtain ⟨i,nN,hi,dQ⟩:=sP ha
     simp only [ay] at hx hy
     subst hy
     obtain ⟨vs,rfl,L9,hr⟩:=hx
     split
     . rename_i sz' hv
       obtain ⟨i',d,jA,hd,hb,_⟩:=ny hv
       rintro ⟨h0,h1⟩
       cases hl:l.drop (j.toNat * sz) with
       | nil=>trivial
       | cons z zs =>
         have hz:l[j.toNat * sz]?=some z:=by
          have:=congrArg (fun l=>l[0]?) hl
          simpa using this
         obtain ⟨u,Te,Yx⟩:=hr.get hz
         have e1:vs.toArray[j.toNat * sz]?=some u:=by simpa using Te
         simp only [Instr.index,asIntOf,bN,ck,ca,run_underlying nN,h0,h1,and_self,if_true,eD,eg hi,dQ,part,ky hd,hb,bJ,if_false,e1]
         exact aT h Yx
     . rename_i k' hv
       obtain ⟨i',d,jA,hd,hb,hk⟩:=ny hv
       rw [hi] at jA; cases jA
       rintro ⟨h0,h1,rfl,h2⟩
       simp only [Instr.index,asIntOf,bN,ck,ca,run_underlying nN,h0,h1,and_self,if_true,eD,eg hi,dQ,part,ky hd,hb]
       refine aT h ?_
       simp only [ay]
       refine ⟨(vs.drop (j.toNat * k')).take k',?_,fun u hu=>L9 u (List.mem_of_mem_drop (List.mem_of_mem_take hu)),(hr.drop _).take _⟩
       congr 1
       apply Array.ext'
       simp [List.extract_eq_take_drop]
     . trivial
   . trivial
 . trivial
end
end Go.Rip
namespace Go.Rip
open Go.RowKit
section
variable {C:cq} {g:Gh} {U:St} {w:World}
theorem pM {P:Program} {d:Nat}:∀ (fs:List Field) (i:Nat) (ks:List FK) (xs ys:List AV) (us vs:Array Value) (r:Bool),uz P fs i=some ks->od ks xs ys=some r ->
 az g xs (us.toList.drop i)->az g ys (vs.toList.drop i)->(Op.eqFields (d+1) us vs fs).run P w=.ok r w
 | [],i,ks,xs,ys,us,vs,r,hk,he,_,_=>by
   simp only [uz,gK] at hk
   subst hk
   cases xs <;> cases ys <;> simp only [od,reduceCtorEq,gK] at he
   subst he
   simp [Op.eqFields]
 | f::fs,i,ks,xs,ys,us,vs,r,hk,he,hx,hy=>by
   simp only [uz] at hk
   split at hk
   . rename_i k ks' hf Mi
     simp only [gK] at hk
     subst hk
     unfold LU at hf
     split at hf
     . rename_i hc
       obtain ⟨ho,hn⟩:=hc
       have S7:∀ (us:Array Value) (u:Value),us[i]?=some u->∀ dd,P.underlying f.type=some dd->B7 dd=false->(part f.type us f.offset).run P w=.ok u w:=fun us u hu dd hd ha=>by
        simp only [part,bN,ky hd,ca,ha,bJ,if_false,ho,hu,ck,eD]
       have nD:∀ {xs:List AV} {x:AV} {us:Array Value},az g (x::xs) (us.toList.drop i)->∃ u,us[i]?=some u/\ay g x u/\az g xs (us.toList.drop (i+1)):=fun {xs x us} h=>by
        simp only [az] at h
        obtain ⟨u,rest,e,h1,h2⟩:=h
        refine ⟨u,?_,h1,?_⟩
        . have:=congrArg (fun l=>l[0]?) e
          simpa using this
        . have:=congrArg (List.drop 1) e
          rw [List.drop_drop] at this
          rw [this]; simpa using h2
       have uI:∀ (u v:Value) (q r':Bool) (dd:TypeDesc),us[i]?=some u->vs[i]?=some v->P.underlying f.type=some dd->B7 dd=false->(Op.equalIn (d+1) f.type u v).run P w=.ok q w ->
        (Op.eqFields (d+1) us vs fs).run P w=.ok r' w->(Op.eqFields (d+1) us vs (f::fs)).run P w=.ok (q && r') w:=fun u v q r' dd hu hv hd ha heq adm=>by
        simp only [Op.eqFields,if_pos hn,bN,S7 us u hu dd hd ha,S7 vs v hv dd hd ha,ca,heq,eD,ck,adm]
        cases q <;> simp
       split at hf
       . rename_i hd
         cases hf
         cases xs with
         | nil=>simp [od] at he
         | cons x xs =>
           cases ys with
           | nil=>cases x <;> simp [od] at he
           | cons y ys =>
             cases x <;> cases y <;> simp only [od,reduceCtorEq] at he
             cases hr:od ks' xs ys with
             | none=>simp [hr] at he
             | some r' =>
               simp [hr] at he
               subst he
               obtain ⟨u,hu,Dq,km⟩:=nD hx
               obtain ⟨v,hv,Dr,Bd⟩:=nD hy
               simp only [ay] at Dq Dr
               subst Dq Dr
               have:=uI _ _ _ r' _ hu hv hd rfl (run_equalIn_bool' w d f.type _ _ hd) (pM fs (i+1) ks' xs ys us vs r' Mi hr km Bd)
               rw [this]
       . rename_i kk hd
         cases hf
         cases xs with
         | nil=>simp [od] at he
         | cons x xs =>
           cases ys with
           | nil=>cases x <;> simp [od] at he
           | cons y ys =>
             cases x <;> cases y <;> simp only [od,reduceCtorEq] at he
             split at he
             . rename_i e; subst e
               cases hr:od ks' xs ys with
               | none=>simp [hr] at he
               | some r' =>
                 simp [hr] at he
                 subst he
                 obtain ⟨u,hu,Dq,km⟩:=nD hx
                 obtain ⟨v,hv,Dr,Bd⟩:=nD hy
                 simp only [ay] at Dq Dr
                 subst Dq Dr
                 have:=uI _ _ _ r' _ hu hv hd rfl (run_equalIn_int w d f.type _ _ _ _ hd) (pM fs (i+1) ks' xs ys us vs r' Mi hr km Bd)
                 rw [this]
             . cases he
       . rename_i hd
         cases hf
         cases xs with
         | nil=>simp [od] at he
         | cons x xs =>
           cases ys with
           | nil=>cases x <;> simp [od] at he
           | cons y ys =>
             cases x <;> cases y <;> simp only [od,reduceCtorEq] at he
             cases hr:od ks' xs ys with
             | none=>simp [hr] at he
             | some r' =>
               simp [hr] at he
               subst he
               obtain ⟨u,hu,Dq,km⟩:=nD hx
               obtain ⟨v,hv,Dr,Bd⟩:=nD hy
               simp only [ay] at Dq Dr
               subst Dq Dr
               have:=uI _ _ _ r' _ hu hv hd rfl (run_equalIn_string w d f.type _ _ hd) (pM fs (i+1) ks' xs ys us vs r' Mi hr km Bd)
               rw [this]
               simp [ByteArray.toList_eq]
       . cases hf
     . cases hf
   . cases hk
theorem BG {P:Program} {t:TypeId} {a b:List AV} {us vs:List Value} {r:Bool} (h:Im P t a b=some r) (ha:az g a us) (hb:az g b vs) :
 (Op.equalIn 10000 t (.agg us.toArray) (.agg vs.toArray)).run P w=.ok r w/\P.eqGuardType P.depth t=false:=by
 unfold Im at h
 split at h
 . rename_i ks gh
   unfold JI at gh
   split at gh
   . rename_i fs hu
     split at gh
     . rename_i hc
       have jO:P.fieldsOf t=fs:=by simp [Program.fieldsOf,hu]
       refine ⟨?_,hc.2⟩
       rw [run_equalIn_struct w 9999 t _ _ (by rw [jO]; exact hu) hc.1,jO]
       exact pM (d:=9998) fs.toList 0 ks a b _ _ r gh h (by simpa using ha) (by simpa using hb)
     . cases gh
   . cases gh
 . cases h
theorem rh {P:Program} (w:World) (d:Nat) (t:TypeId) (ms:Array (String × TypeId)) (h:P.underlying t=some (.interface ms)) (a:TypeId) (b:Value):(Op.equalIn (d+1) t (.iface a b) .nilIface).run P w=.ok false w:=by
 simp [Op.equalIn,run_underlying h]
theorem iZ {P:Program} (w:World) (d:Nat) (t e:TypeId) (h:P.underlying t=some (.pointer e)) (a:Option Addr):(Op.equalIn (d+1) t (.pointer a) (.pointer none)).run P w=.ok a.isNone w:=by
 cases a <;> simp [Op.equalIn,run_underlying h]
theorem nr {P:Program} (w:World) (d:Nat) (t e:TypeId) (h:P.underlying t=some (.slice e)) (a:Option Addr) (n c:Nat):(Op.equalIn (d+1) t (.slice a n c) (.slice none 0 0)).run P w=.ok a.isNone w:=by
 cases a <;> simp [Op.equalIn,run_underlying h]
theorem pN {P:Program} (w:World) (d:Nat) (t:TypeId) (ms:Array (String × TypeId)) (h:P.underlying t=some (.interface ms)):(Op.equalIn (d+1) t .nilIface .nilIface).run P w=.ok true w:=by
 simp [Op.equalIn,run_underlying h]
theorem Lq (h:a8 g U w) {op:BinOp} {t:TypeId} {x y:AV} {u v:Value} (X Y:Operand) (hx:ay g x u) (hy:ay g y v) :
 aD.Fits C g U (Jq C.P op t x y) ((do let r <- (do eqGuard op t X Y u v; binOp op t u v:Sem Value); pure (Next.value r):Sem Next).run C.P w):=by
 have hI:∀ (k:IntKind) (n:Int),aD.Fits C g U (gP k n) (.ok (.value (.int k (k.wrap n))) w):=fun k n=>by
  unfold gP
  split
  . intro hi
    rw [wB hi]
    exact aT h (by simp only [ay])
  . exact aT h (by simp only [ay])
 unfold Jq
 split
 all_goals first
  | trivial
  | skip
 all_goals simp only [ay] at hx hy
 all_goals first
  | (subst hx hy
     split
     . rename_i e; subst e
       first
        | (simp only [eqGuard,binOp,ne_eq,not_true_eq_false,if_false,Op.intArith,Op.intCmp,Op.intBits,bN,ck,ca,Bool.not_eq_true',Bool.true_eq_false,cI,eA,bJ,if_true,eD]
           first
            | exact hI _ _
            | exact aT h (by simp only [ay]))
        | (intro hb
           simp only [eqGuard,binOp,ne_eq,not_true_eq_false,if_false,Op.intDiv,if_neg hb,bN,ck,ca,Bool.not_eq_true',Bool.true_eq_false,cI,eA,bJ,if_true,eD]
           first
            | exact hI _ _
            | exact aT h (by simp only [ay]))
     . trivial)
  | skip
 . subst hx hy
   simp only [eqGuard,binOp,Op.stringOp,bN,ck,ca,cI,bJ,if_false,eD,ByteArray.toList_eq,List.toList_toArray]
   exact aT h (by simp only [ay])
 . subst hx hy
   simp only [eqGuard,binOp,Op.stringOp,bN,ck,ca,cI,bJ,if_false,eD,ByteArray.toList_eq,List.toList_toArray]
   exact aT h (by simp only [ay]; rfl)
 . subst hx hy
   rename_i a b
   intro hle
   have h1:¬ (((ByteArray.mk a.toArray).size+(ByteArray.mk b.toArray).size:Nat):Int) > IntKind.i64.max:=by
    have e1:(ByteArray.mk a.toArray).size=a.length:=by simp [ByteArray.size]
    have e2:(ByteArray.mk b.toArray).size=b.length:=by simp [ByteArray.size]
    have e3:IntKind.i64.max=9223372036854775807:=by simp [IntKind.max,IntKind.signed,IntKind.bits]
    rw [e1,e2,e3]; omega
   have h2:(ByteArray.mk a.toArray)++(ByteArray.mk b.toArray)=ByteArray.mk (a++b).toArray:=by
    apply ByteArray.ext
    simp
   simp only [eqGuard,binOp,Op.stringOp,bN,ck,ca,if_neg h1,eD,cI,eA,bJ,if_true,if_false,h2]
   exact aT h (by simp only [ay])
 . subst hx hy
   split
   . rename_i ht
     have hu:C.P.underlying t=some .bool:=by unfold uU at ht; split at ht <;> simp_all
     have hr:=run_equalIn_bool' (P:=C.P) w 9999 t
     simp only [eqGuard,binOp,Op.equal,Op.maxDepth,bN,ck,ca,hr _ _ hu,cI,bJ,if_false,eD]
     exact aT h (by simp only [ay])
   . trivial
 . subst hx hy
   split
   . rename_i ht
     have hu:C.P.underlying t=some .bool:=by unfold uU at ht; split at ht <;> simp_all
     have hr:=run_equalIn_bool' (P:=C.P) w 9999 t
     simp only [eqGuard,binOp,Op.equal,Op.maxDepth,bN,ck,ca,hr _ _ hu,cI,bJ,if_false,eD]
     exact aT h (by simp only [ay]; rfl)
   . trivial
 . rename_i a b
   obtain ⟨us,rfl,_,ha⟩:=hx
   obtain ⟨vs,rfl,_,hb⟩:=hy
   cases he:Im C.P t a b with
   | none=>trivial
   | some r =>
     obtain ⟨h1,h2⟩:=BG (w:=w) he ha hb
     simp only [wq,bN,run_eqGuard_agg w _ _ _ _ _ _ h2,ca,run_eql_struct,h1,ck]
     exact aT h (by simp only [ay])
 . rename_i a b
   obtain ⟨us,rfl,_,ha⟩:=hx
   obtain ⟨vs,rfl,_,hb⟩:=hy
   cases he:Im C.P t a b with
   | none=>trivial
   | some r =>
     obtain ⟨h1,h2⟩:=BG (w:=w) he ha hb
     simp only [wq,bN,run_eqGuard_agg w _ _ _ _ _ _ h2,ca,run_neq_struct,h1,ck]
     exact aT h (by simp only [ay])
 . obtain ⟨u',rfl,_⟩:=hx
   subst hy
   split
   . rename_i ht
     obtain ⟨ms,hu⟩:∃ ms,C.P.underlying t=some (.interface ms):=by unfold jP at ht; split at ht <;> simp_all
     have hr:=rh (P:=C.P) w 9999 t ms hu
     simp only [eqGuard,binOp,Op.equal,Op.maxDepth,hr,bN,ck,ca,cI,bJ,if_false,eD]
     exact aT h (by simp only [ay])
   . trivial
 . obtain ⟨u',rfl,_⟩:=hx
   subst hy
   split
   . rename_i ht
     obtain ⟨ms,hu⟩:∃ ms,C.P.underlying t=some (.interface ms):=by unfold jP at ht; split at ht <;> simp_all
     have hr:=rh (P:=C.P) w 9999 t ms hu
     simp only [eqGuard,binOp,Op.equal,Op.maxDepth,hr,bN,ck,ca,cI,eA,bJ,if_false,eD]
     exact aT h (by simp only [ay])
   . trivial
 . subst hx hy
   split
   . rename_i ht
     obtain ⟨ms,hu⟩:∃ ms,C.P.underlying t=some (.pointer ms):=by unfold lh at ht; split at ht <;> simp_all
     have hr:=iZ (P:=C.P) w 9999 t ms hu
     simp only [eqGuard,binOp,Op.equal,Op.maxDepth,hr,bN,ck,ca,Option.isNone_none,cI,eA,bJ,if_false,eD]
     exact aT h (by simp [ay])
   . trivial
 . obtain ⟨x,_,rfl⟩:=hx
   subst hy
   split
   . rename_i ht
     obtain ⟨ms,hu⟩:∃ ms,C.P.underlying t=some (.pointer ms):=by unfold lh at ht; split at ht <;> simp_all
     have hr:=iZ (P:=C.P) w 9999 t ms hu
     simp only [eqGuard,binOp,Op.equal,Op.maxDepth,hr,bN,ck,ca,Option.isNone_none,cI,eA,bJ,if_false,eD]
     exact aT h (by simp [ay])
   . trivial
 . subst hx hy
   split
   . rename_i ht
     obtain ⟨ms,hu⟩:∃ ms,C.P.underlying t=some (.pointer ms):=by unfold lh at ht; split at ht <;> simp_all
     have hr:=iZ (P:=C.P) w 9999 t ms hu
     simp only [eqGuard,binOp,Op.equal,Op.maxDepth,hr,bN,ck,ca,Option.isNone_none,cI,eA,bJ,if_false,eD]
     exact aT h (by simp [ay])
   . trivial
 . obtain ⟨x,_,rfl⟩:=hx
   subst hy
   split
   . rename_i ht
     obtain ⟨ms,hu⟩:∃ ms,C.P.underlying t=some (.pointer ms):=by unfold lh at ht; split at ht <;> simp_all
     have hr:=iZ (P:=C.P) w 9999 t ms hu
     simp only [eqGuard,binOp,Op.equal,Op.maxDepth,hr,bN,ck,ca,Option.isNone_none,cI,eA,bJ,if_false,eD]
     exact aT h (by simp [ay])
   . trivial
 . obtain ⟨_,_,_,rfl,_⟩:=hx
   subst hy
   split
   . rename_i ht
     obtain ⟨ms,hu⟩:∃ ms,C.P.underlying t=some (.pointer ms):=by unfold lh at ht; split at ht <;> simp_all
     have hr:=iZ (P:=C.P) w 9999 t ms hu
     simp only [eqGuard,binOp,Op.equal,Op.maxDepth,hr,bN,ck,ca,Option.isNone_none,cI,eA,bJ,if_false,eD]
     exact aT h (by simp [ay])
   . trivial
 . obtain ⟨_,_,_,rfl,_⟩:=hx
   subst hy
   split
   . rename_i ht
     obtain ⟨ms,hu⟩:∃ ms,C.P.underlying t=some (.pointer ms):=by unfold lh at ht; split at ht <;> simp_all
     have hr:=iZ (P:=C.P) w 9999 t ms hu
     simp only [eqGuard,binOp,Op.equal,Op.maxDepth,hr,bN,ck,ca,Option.isNone_none,cI,eA,bJ,if_false,eD]
     exact aT h (by simp [ay])
   . trivial
 . subst hx
   subst hy
   split
   . rename_i ht
     obtain ⟨ms,hu⟩:∃ ms,C.P.underlying t=some (.slice ms):=by unfold oO at ht; split at ht <;> simp_all
     have hr:=nr (P:=C.P) w 9999 t ms hu
     simp only [eqGuard,binOp,Op.equal,Op.maxDepth,hr,bN,ck,ca,Option.isNone_none,Option.isNone_some,cI,eA,bJ,if_false,eD]
     exact aT h (by simp [ay])
   . trivial
 . obtain ⟨_,_,_,_,rfl,_⟩:=hx
   subst hy
   split
   . rename_i ht
     obtain ⟨ms,hu⟩:∃ ms,C.P.underlying t=some (.slice ms):=by unfold oO at ht; split at ht <;> simp_all
     have hr:=nr (P:=C.P) w 9999 t ms hu
     simp only [eqGuard,binOp,Op.equal,Op.maxDepth,hr,bN,ck,ca,Option.isNone_none,Option.isNone_some,cI,eA,bJ,if_false,eD]
     exact aT h (by simp [ay])
   . trivial
 . obtain ⟨_,_,_,rfl,_⟩:=hx
   subst hy
   split
   . rename_i ht
     obtain ⟨ms,hu⟩:∃ ms,C.P.underlying t=some (.slice ms):=by unfold oO at ht; split at ht <;> simp_all
     have hr:=nr (P:=C.P) w 9999 t ms hu
     simp only [eqGuard,binOp,Op.equal,Op.maxDepth,hr,bN,ck,ca,Option.isNone_none,Option.isNone_some,cI,eA,bJ,if_false,eD]
     exact aT h (by simp [ay])
   . trivial
theorem Lr (h:a8 g U w) {op:BinOp} {t:TypeId} {x y:AV} {u v:Value} (X Y:Operand) (hx:ay g x u) (hy:ay g y v) :
 aD.Fits C g U (EZ C.P op t (isLit X || isLit Y) x y) ((do let r <- (do eqGuard op t X Y u v; binOp op t u v:Sem Value); pure (Next.value r):Sem Next).run C.P w):=by
 have key:∀ (op:BinOp),(op=.eql\/op=.neq)->jP C.P t=true->(isLit X || isLit Y)=true->(eqGuard op t X Y .nilIface .nilIface).run C.P w=.ok () w:=fun op hop ht hl=>by
  obtain ⟨ms,hu⟩:∃ ms,C.P.underlying t=some (.interface ms):=by unfold jP at ht; split at ht <;> simp_all
  rcases hop with rfl | rfl <;> cases X <;> cases Y <;> simp [isLit] at hl <;> simp [eqGuard]
 unfold EZ
 split
 . simp only [ay] at hx hy
   subst hx hy
   split
   . rename_i ht
     obtain ⟨ms,hu⟩:∃ ms,C.P.underlying t=some (.interface ms):=by have ht:=ht.1; unfold jP at ht; split at ht <;> simp_all
     have hr:=pN (P:=C.P) w 9999 t ms hu
     simp only [bN,key _ (.inl rfl) ht.1 ht.2,binOp,Op.equal,Op.maxDepth,hr,ck,ca,cI,eA,bJ,if_false,eD]
     exact aT h (by simp [ay])
   . trivial
 . simp only [ay] at hx hy
   subst hx hy
   split
   . rename_i ht
     obtain ⟨ms,hu⟩:∃ ms,C.P.underlying t=some (.interface ms):=by have ht:=ht.1; unfold jP at ht; split at ht <;> simp_all
     have hr:=pN (P:=C.P) w 9999 t ms hu
     simp only [bN,key _ (.inr rfl) ht.1 ht.2,binOp,Op.equal,Op.maxDepth,hr,ck,ca,cI,eA,bJ,if_false,eD]
     exact aT h (by simp [ay])
   . trivial
 . exact Lq h X Y hx hy
end
end Go.Rip
namespace Go.Rip
open Go.RowKit
section
variable {C:cq} {g:Gh} {U:St} {w:World}
def Jo (P:Program) (t u:TypeId):Option (TypeId × Nat) :=
 match P.underlying u with
 | some (.slice _)=>eJ P t
 | some .string=>match eJ P t with
   | some (e,1)=>some (e,1)
   | _=>none
 | _=>none
def pO (U:St):AV->Option (Nat × List AV)
 | .vec m _ l=>some (m,l)
 | .aw=>some (0,[])
 | .ms b off m ir _=>match U.box b with
   | some l=>some (m,(l.drop off).take (m * ir))
   | none=>none
 | .str s=>some (s.length,s.map fun b=>.int .u8 b.toNat)
 | _=>none
def B8 (P:Program) (t u:TypeId) (mu:Bool) (s y:AV) (U:St):aD :=
 match Jo P t u,pO U y with
 | some (e,sz),some (m,l2) =>
   .cond (l2.length=m * sz) (match s with
   | .aw=>if m=0 then .val .aw else .cond (m <= 4294967296) (if mu then .nF m sz e none l2 else .l8 m l2 none ⟨m,e,sz⟩)
   | .vec n .full l=>if m=0 then .val s else .cond (l.length=n * sz/\n+m <= 4294967296) (.l8 (n+m) (l++l2) none ⟨n+m,e,sz⟩)
   | .vec n (.own τ) l=>.cond (U.tok τ=some ⟨n,e,sz⟩/\l.length=n * sz/\n+m <= 4294967296) (.l8 (n+m) (l++l2) (some τ) ⟨n+m,e,sz⟩)
   | .ms b off n ir e'=>match U.box b with
     | some l=>.cond (off=0/\ir=sz/\e'=e/\n * sz <= l.length/\n+m <= 4294967296) (.nF (n+m) sz e (some b) (l.take (n * sz)++l2))
     | none=>.bad
   | _=>.bad)
 | _,_=>.bad
theorem Lm {P:Program} {t u e:TypeId} {sz:Nat} (h:Jo P t u=some (e,sz)):eJ P t=some (e,sz)/\∃ d,P.underlying u=some d/\((∃ x,d=.slice x)\/d=.string):=by
 unfold Jo at h
 split at h
 . rename_i x hx; exact ⟨h,_,hx,.inl ⟨x,rfl⟩⟩
 . rename_i hx
   split at h
   . rename_i e' he
     simp only [gK,ik] at h
     obtain ⟨rfl,rfl⟩:=h
     exact ⟨he,_,hx,.inr rfl⟩
   . cases h
 . cases h
theorem PN (h:a8 g U w) {y:AV} {v:Value} (hy:ay g y v) {m:Nat} {l2:List AV} (hs:pO U y=some (m,l2)) {sz:Nat} (hl:l2.length=m * sz) :
 (∀ W,(Builtin.lenOf v).run C.P W=.ok m W)/\∃ us:List Value,az g l2 us/\(∀ u ∈ us,u.oneCell'=true)/\∀ W:World,W.heap=w.heap->(Builtin.firstCells sz m v).run C.P W=.ok us.toArray W:=by
 have jN:∀ aE off j,(⟨aE,off,none⟩:Addr).add j=⟨aE,off+j,none⟩:=fun aE off j=>by unfold Addr.add; split <;> simp_all
 have oD:∀ (W:World) a,W.heap=w.heap->W.cell? a=w.cell? a:=fun W a hW=>by simp [World.cell?,hW]
 have read:∀ (aE off c:Nat) (us:List Value),us.length=m * sz->(∀ j u,us[j]?=some u->w.cell? ⟨aE,off+j,none⟩=some u)->∀ W:World,W.heap=w.heap ->
  (Builtin.firstCells sz m (.slice (some ⟨aE,off,none⟩) m c)).run C.P W=.ok us.toArray W:=fun aE off c us hlen hc W hW=>by
  exact run_firstCells_some W sz m ⟨aE,off,none⟩ m c us hlen (fun j u hu=>by rw [jN,oD W _ hW]; exact hc j u hu)
 cases y <;> simp only [pO,reduceCtorEq,gK,ik] at hs
 . rename_i s
   obtain ⟨rfl,rfl⟩:=hs
   simp only [ay] at hy
   subst hy
   have dQ:(ByteArray.mk s.toArray).size=s.length:=by simp [ByteArray.size]
   refine ⟨fun W=>by simp [Builtin.lenOf,dQ],s.map (fun b=>Value.int .u8 b.toNat),?_,by simp [Value.oneCell'],fun W _=>?_⟩
   . refine az.Bs (by simp) fun i x u hx hu=>?_
     simp only [ln,nX] at hx hu
     obtain ⟨b,hb,rfl⟩:=hx
     obtain ⟨b',eH,rfl⟩:=hu
     rw [hb] at eH; cases eH
     simp only [ay]
   . simp only [Builtin.firstCells,ck]
     congr 1
     apply Array.ext'
     simp
 . obtain ⟨rfl,rfl⟩:=hs
   simp only [ay] at hy
   subst hy
   exact ⟨fun W=>by simp [Builtin.lenOf],[],by simp [az],by simp,fun W _=>by simp [Builtin.firstCells]⟩
 . rename_i n cap l
   obtain ⟨rfl,rfl⟩:=hs
   simp only [ay] at hy
   obtain ⟨aE,off,c,vs,rfl,_,_,_,hi,hr⟩:=hy
   exact ⟨fun W=>by simp [Builtin.lenOf],vs,hr,fun u hu=>by
    obtain ⟨j,hj⟩:=List.getElem?_of_mem hu
    exact (h.bS _ _ _ (hi j u hj)).2,read aE off c vs (by rw [hr.length,hl]) fun j u hu=>(h.bS _ _ _ (hi j u hu)).1⟩
 . rename_i b off n ir e'
   split at hs
   . rename_i l hb
     simp only [gK,ik] at hs
     obtain ⟨rfl,rfl⟩:=hs
     simp only [ay] at hy
     obtain ⟨x,c,hx,rfl,_,_,_,_⟩:=hy
     obtain ⟨a,vs,hv,ha,hr,hc⟩:=qp h (p:=.box b off) (v:=.pointer (some ⟨x.aE,off,none⟩)) (l:=l.drop off) (by simp only [ay]; exact ⟨x,hx,rfl⟩) (by simp [kX,hb])
     cases hv
     refine ⟨fun W=>by simp [Builtin.lenOf],vs.take (n * ir),hr.take _,fun u hu=>?_,read x.aE off c _ (by rw [(hr.take _).length,hl]) fun j u hu=>?_⟩
     . obtain ⟨j,hj⟩:=List.getElem?_of_mem hu
       rw [List.getElem?_take] at hj
       split at hj
       . exact (hc j u hj).2
       . cases hj
     . rw [List.getElem?_take] at hu
       split at hu
       . have:=(hc j u hu).1; rwa [jN] at this
       . cases hu
   . cases hs
theorem nJ {P:Program} {w:World} {t u ty e:TypeId} {i:TypeInfo} {d:TypeDesc} (ht:P.underlying t=some (.slice e)) (hu:P.underlying u=some d) (hd:(∃ x,d=.slice x)\/d=.string) (hi:P.info? e=some i)
 {base:Option Addr} {n c m:Nat} {v:Value} {us:List Value} (hm:∀ W,(Builtin.lenOf v).run P W=.ok m W) (hf:(Builtin.firstCells i.size m v).run P w=.ok us.toArray w) (oE:n+m <= c) :
 (Builtin.append_ #[t,u] ty #[.slice base n c,v]).run P w=match base with
   | some a=>((storeCells (a.add (n * i.size)) us).run P w).andThen fun _ w'=>.ok (.slice base (n+m) c) w'
   | none=>.ok (.slice base (n+m) c) w:=by
 rcases hd with ⟨x,rfl⟩ | rfl <;> cases base <;>
  simp [Builtin.append_,run_underlying ht,run_underlying hu,sizeOf,typeInfo,hi,hm,oE,hf]
theorem CH {P:Program} {w:World} {t u ty e:TypeId} {i:TypeInfo} {z:Value} {d:TypeDesc} (ht:P.underlying t=some (.slice e)) (hu:P.underlying u=some d) (hd:(∃ x,d=.slice x)\/d=.string) (hi:P.info? e=some i) (hz:i.zero=some z) (AX:i.bytes <= 32768)
 {base:Option Addr} {n c m:Nat} {v:Value} {x5 us:List Value} (hm:∀ W,(Builtin.lenOf v).run P W=.ok m W) (hf:∀ W:World,W.heap=w.heap->(Builtin.firstCells i.size m v).run P W=.ok us.toArray W)
 (ho:∀ W:World,W.heap=w.heap->(Builtin.firstCells i.size n (.slice base n c)).run P W=.ok x5.toArray W) (aeo:c < n+m) (px:n+m <= 4294967296) :
 (Builtin.append_ #[t,u] ty #[.slice base n c,v]).run P w =
   .ok (.slice (some ⟨w.heap.size,0,none⟩) (n+m) (grownCap w (n+m) c e))
    (w.drew.alloc (.cells (x5.toArray++us.toArray++Builtin.zeroCells z.cells (grownCap w (n+m) c e - (n+m))) e)):=by
 have oE:¬ (n+m <= c):=by omega
 have QS:¬ (9223372036854775807 < ((n:Int)+(m:Int))):=by omega
 have fY:(n+m) * i.bytes <= 140737488355328:=Nat.le_trans (Nat.mul_le_mul px AX) (by omega)
 have Ma:=growslice_fits (old:=c) (need:=n+m) (bytes:=i.bytes) (by omega) fY
 have QR:¬ (281474976710656 < Builtin.nextslicecap (n+m) c * i.bytes):=by omega
 have uH:=hf w.drew rfl
 have SZ:=ho w.drew rfl
 rcases hd with ⟨x,rfl⟩ | rfl <;>
 . simp [Builtin.append_,run_underlying ht,run_underlying hu,sizeOf,typeInfo,zeroValue,hi,hz,hm,oE,QS,QR,Question.forced,uH,SZ,newRow,grownCap]
   congr 2
   apply Array.ext'
   simp [iM]
theorem St.Ik (U:St) (d:Option Nat):St.Le (U.qO d) U:=by
 cases d with
 | none=>exact St.Le.refl U
 | some b=>exact St.rV U b
theorem og {w:World} (h:a8 g U w) {del:Option Nat} {e:TypeId} {sz n c:Nat} {l:List AV} {vs rest:List Value} (hr:az g l vs) (h1:∀ u ∈ vs,u.oneCell'=true) (h2:∀ u ∈ rest,u.oneCell'=true)
 (hl:l.length=n * sz) (hc:vs.length+rest.length=c * sz) (hn:n <= c) (uG:c <= maxLen) :
 aD.Fits C g U (.l8 n l del ⟨n,e,sz⟩) (.ok (.value (.slice (some ⟨w.heap.size,0,none⟩) n c)) (w.alloc (.cells (vs++rest).toArray e))):=by
 obtain ⟨τ,g',h3,hle,h4,h5,h6⟩:=(h.weaken (St.Ik U del)).l8 e sz n c (vs++rest).toArray vs rest (by simp) (by
  intro u hu
  simp only [fB] at hu
  rcases hu with hu | hu
  . exact h1 u hu
  . exact h2 u hu) (by rw [hr.length,hl]) (by simp [hc]) hn uG
 refine ⟨_,_,g',τ,rfl,h3,hle,h6,?_⟩
 simp only [NV.at,ay]
 exact ⟨w.heap.size,0,c,vs,rfl,hn,uG,⟨rfl,h4⟩,h5,hr.mono hle⟩
theorem pt {w:World} (h:a8 g U w) {del:Option Nat} {e:TypeId} {sz n c:Nat} {l:List AV} {vs rest:List Value} (hr:az g l vs) (h1:∀ u ∈ vs,u.oneCell'=true) (h2:∀ u ∈ rest,u.oneCell'=true)
 (hc:vs.length+rest.length=c * sz) (hn:n <= c) (uG:c <= maxLen) :
 aD.Fits C g U (.nF n sz e del l) (.ok (.value (.slice (some ⟨w.heap.size,0,none⟩) n c)) (w.alloc (.cells (vs++rest).toArray e))):=by
 obtain ⟨b,g',h3,hle,h4,h6⟩:=(h.weaken (St.Ik U del)).cP e (vs++rest).toArray vs rest l (by simp) hr (by
  intro u hu
  simp only [fB] at hu
  rcases hu with hu | hu
  . exact h1 u hu
  . exact h2 u hu)
 refine ⟨_,_,g',b,rfl,h3,hle,h6,?_⟩
 simp only [NV.at,ay]
 exact ⟨_,c,h4,rfl,hn,uG,by simp [hc],rfl⟩
theorem kT {z:Array Value} (hz:∀ u ∈ z.toList,u.oneCell'=true) (n:Nat) (hp:0 < z.size):∀ u ∈ (Builtin.zeroCells z n).toList,u.oneCell'=true:=by
 intro u hu
 simp only [Builtin.zeroCells,Array.toList_map,List.mem_map] at hu
 obtain ⟨i,_,rfl⟩:=hu
 have aO:i % z.size < z.size:=Nat.mod_lt _ hp
 rw [getElem!_pos z _ aO]
 exact hz _ (by simp)
theorem EX (h:a8 g U w) {t u ty:TypeId} {mu:Bool} {s y:AV} {v v2:Value} (hs:ay g s v) (hy:ay g y v2) :
 aD.Fits C g U (B8 C.P t u mu s y U) ((do let r <- Builtin.append_ #[t,u] ty #[v,v2]; pure (Next.value r):Sem Next).run C.P w):=by
 have jN:∀ aE off j,(⟨aE,off,none⟩:Addr).add j=⟨aE,off+j,none⟩:=fun aE off j=>by unfold Addr.add; split <;> simp_all
 unfold B8
 split
 . rename_i e sz m l2 SJ J2
   intro se
   obtain ⟨lf,d,hu,hd⟩:=Lm SJ
   obtain ⟨i,z,ht,hi,hz,uO,rfl,pw,AX,hz1⟩:=gL lf
   obtain ⟨hm,us,sh,xD,hf⟩:=PN (C:=C) h hy J2 se
   have F1:us.length=m * i.size:=by rw [sh.length,se]
   have grow:∀ (base:Option Addr) (n c:Nat) (x5:List Value),(∀ W:World,W.heap=w.heap->(Builtin.firstCells i.size n (.slice base n c)).run C.P W=.ok x5.toArray W)->x5.length=n * i.size->c < n+m->n+m <= 4294967296 ->
    ∃ cap rest,n+m <= cap/\cap <= maxLen/\(∀ u ∈ rest,u.oneCell'=true)/\(x5++us).length+rest.length=cap * i.size /\
    (Builtin.append_ #[t,u] ty #[.slice base n c,v2]).run C.P w=.ok (.slice (some ⟨w.drew.heap.size,0,none⟩) (n+m) cap) (w.drew.alloc (.cells ((x5++us)++rest).toArray e)):=fun base n c x5 ho hol aO px=>by
    have jo:=grownCap_ge w (n+m) c e
    have hle:=grownCap_le_maxLen w (n+m) c e (by unfold maxLen; omega)
    refine ⟨grownCap w (n+m) c e,(Builtin.zeroCells z.cells (grownCap w (n+m) c e - (n+m))).toList,jo,hle,kT hz1 _ (by omega),?_,?_⟩
    . rw [dh,hol,F1,qT,size_zeroCells,uO,<- Nat.add_mul,<- Nat.add_mul]
      congr 1; omega
    . rw [CH ht hu hd hi hz AX hm hf ho aO px]
      congr 3
      simp
   split
   . simp only [ay] at hs
     subst hs
     split
     . rename_i h0
       subst h0
       rw [bN,nJ ht hu hd hi hm (hf w rfl) (by omega)]
       exact aT h (by simp only [ay])
     . rename_i h0
       intro px
       obtain ⟨cap,rest,h1,h2,h3,h4,h5⟩:=grow none 0 0 [] (fun W _=>by simp [Builtin.firstCells]) (by simp) (by omega) (by omega)
       rw [bN,h5]
       have dY:=h.grow (jM w)
       simp only [cV,kK] at h1 h4 h5 ⊢
       split
       . exact pt dY sh xD h3 h4 h1 h2
       . exact og dY sh xD h3 se h4 h1 h2
   . rename_i n l
     have xK:=hs
     simp only [ay] at hs
     obtain ⟨aE,off,c,vs,rfl,Dl,uG,xE,mz,hr⟩:=hs
     simp only [ph] at xE
     subst xE
     split
     . rename_i h0
       subst h0
       rw [bN,nJ ht hu hd hi hm (hf w rfl) (by omega)]
       have adr:us=[]:=List.eq_nil_of_length_eq_zero (by simpa using F1)
       subst adr
       simp only [storeCells,ck,ca,Nat.add_zero]
       exact aT h xK
     . rename_i h0
       rintro ⟨hl,px⟩
       have gw:vs.length=c * i.size:=by rw [hr.length,hl]
       have ho:∀ W:World,W.heap=w.heap->(Builtin.firstCells i.size c (.slice (some ⟨aE,off,none⟩) c c)).run C.P W=.ok vs.toArray W:=fun W hW =>
        run_firstCells_some W i.size c ⟨aE,off,none⟩ c c vs gw (fun j u hu=>by
         rw [jN]
         have:W.cell? ⟨aE,off+j,none⟩=w.cell? ⟨aE,off+j,none⟩:=by simp [World.cell?,hW]
         rw [this]; exact (h.bS _ _ _ (mz j u hu)).1)
       obtain ⟨cap,rest,h1,h2,h3,h4,h5⟩:=grow (some ⟨aE,off,none⟩) c c vs ho gw (by omega) px
       rw [bN,h5]
       have dY:=h.grow (jM w)
       refine og dY (hr.append sh) ?_ h3 (by rw [dh,hl,se,Nat.add_mul]) h4 h1 h2
       intro u hu
       simp only [fB] at hu
       rcases hu with hu | hu
       . obtain ⟨j,hj⟩:=List.getElem?_of_mem hu
         exact (h.bS _ _ _ (mz j u hj)).2
       . exact xD u hu
   . rename_i n τ l
     rintro ⟨Yq,hl,px⟩
     simp only [ay] at hs
     obtain ⟨aE,off,c,vs,rfl,Dl,uG,xE,mz,hr⟩:=hs
     simp only [ph] at xE
     obtain ⟨rfl,xG⟩:=xE
     obtain ⟨acG,c',cur,k1,k2,k3,k4,k5,k6,k7⟩:=h.tok τ _ Yq
     rw [xG] at k1; cases k1
     have gw:vs.length=n * i.size:=by rw [hr.length,hl]
     by_cases oE:n+m <= c
     . have nT:n * i.size+us.length <= cur.size:=by
        have e4:cur.size=c * i.size:=k4
        rw [F1,e4,<- Nat.add_mul]; exact Nat.mul_le_mul_right _ oE
       have fg:=run_storeCells_at C.P aE (n * i.size) e us 0 cur w k3 (by simpa using nT) xD
       simp only [Nat.add_zero] at fg
       rw [bN,nJ ht hu hd hi hm (hf w rfl) oE]
       simp only [jN,cV,fg,ca]
       obtain ⟨sN,g',t1,hle,t2,t3,t4⟩:=h.ZC Yq xG cur (cur.toList.take (n * i.size)++us++cur.toList.drop (n * i.size+us.length)).toArray us m k3 F1 oE (by simp) xD
       refine ⟨_,_,g',sN,rfl,t1,hle,t4,?_⟩
       simp only [NV.at,ay]
       refine ⟨aE,0,c,vs++us,rfl,oE,uG,⟨rfl,t2⟩,fun j u hu=>?_,(hr.append sh).mono hle⟩
       by_cases hj:j < vs.length
       . rw [ud hj] at hu
         exact (mz.mono hle) j u hu
       . rw [List.getElem?_append_right (by omega)] at hu
         have e0:n * i.size+(j - vs.length)=0+j:=by omega
         have t3':g'.bS aE (n * i.size+(j - vs.length))=some u:=t3 _ u hu
         rw [e0] at t3'
         exact t3'
     . have ho:∀ W:World,W.heap=w.heap->(Builtin.firstCells i.size n (.slice (some ⟨aE,0,none⟩) n c)).run C.P W=.ok vs.toArray W:=fun W hW =>
        run_firstCells_some W i.size n ⟨aE,0,none⟩ n c vs gw (fun j u hu=>by
         rw [jN]
         have:W.cell? ⟨aE,0+j,none⟩=w.cell? ⟨aE,0+j,none⟩:=by simp [World.cell?,hW]
         rw [this]; exact (h.bS _ _ _ (mz j u hu)).1)
       obtain ⟨cap,rest,h1,h2,h3,h4,h5⟩:=grow (some ⟨aE,0,none⟩) n c vs ho gw (by omega) px
       rw [bN,h5]
       have dY:=h.grow (jM w)
       refine og dY (hr.append sh) ?_ h3 (by rw [dh,hl,se,Nat.add_mul]) h4 h1 h2
       intro u hu
       simp only [fB] at hu
       rcases hu with hu | hu
       . obtain ⟨j,hj⟩:=List.getElem?_of_mem hu
         exact (h.bS _ _ _ (mz j u hj)).2
       . exact xD u hu
   . rename_i b off n ir e'
     split
     . rename_i l hb
       rintro ⟨rfl,rfl,rfl,SY,px⟩
       simp only [ay] at hs
       obtain ⟨x,c,hx,rfl,Dl,uG,abr,Yu⟩:=hs
       obtain ⟨x',cur,vs,abF,k1,k2,k3,k4,k5,k6,k7,k8⟩:=h.box b l hb
       rw [hx] at k1; cases k1
       have sb:cur.size=c * i.size:=by rw [k4]; omega
       have gw:=k6.length
       by_cases oE:n+m <= c
       . have nT:n * i.size+us.length <= cur.size:=by
          rw [F1,sb,<- Nat.add_mul]; exact Nat.mul_le_mul_right _ oE
         have fg:=run_storeCells_at C.P x.aE (n * i.size) x.e us 0 cur w k3 (by simpa using nT) xD
         simp only [Nat.add_zero] at fg
         rw [bN,nJ ht hu hd hi hm (hf w rfl) oE]
         simp only [jN,cV,fg,ca]
         have e1:cur.toList.take (n * i.size)=vs.take (n * i.size):=by rw [k5,List.take_append_of_le_length (by omega)]
         have xL:=h.setRow hb hx (l':=l.take (n * i.size)++l2) (cur.toList.take (n * i.size)++us++cur.toList.drop (n * i.size+us.length)).toArray (vs.take (n * i.size)++us) (cur.toList.drop (n * i.size+us.length)) (by
          simp only [List.size_toArray,dh,List.length_take,List.length_drop,qT]; omega) (by simp [e1]) ((k6.take _).append sh) (by
          intro u hu
          simp only [fB] at hu
          rcases hu with (hu | hu) | hu
          . exact k7 u (List.mem_of_mem_take hu)
          . exact xD u hu
          . exact k7 u (List.mem_of_mem_drop hu))
         obtain ⟨b',g',f1,hle,f2,f3⟩:=xL.rename (b:=b) (x:=.box (l.take (n * i.size)++l2)) (by simp [St.bW,St.set]) hx
         have ed:(U.bW b (l.take (n * i.size)++l2)).del b=U.del b:=by
          simp only [St.bW,St.set,St.del,St.mk.injEq,and_true]
          funext y
          split <;> rfl
         rw [ed] at f1 f3
         refine ⟨_,_,g',b',rfl,f1,hle,f3,?_⟩
         simp only [NV.at,ay]
         exact ⟨x,c,f2,rfl,oE,uG,abr,Yu⟩
       . have hvn:(vs.take (n * i.size)).length=n * i.size:=by simp; omega
         have ho:∀ W:World,W.heap=w.heap->(Builtin.firstCells i.size n (.slice (some ⟨x.aE,0,none⟩) n c)).run C.P W=.ok (vs.take (n * i.size)).toArray W:=fun W hW =>
          run_firstCells_some W i.size n ⟨x.aE,0,none⟩ n c _ hvn (fun j u hu=>by
           rw [jN]
           have:W.cell? ⟨x.aE,0+j,none⟩=w.cell? ⟨x.aE,0+j,none⟩:=by simp [World.cell?,hW]
           rw [this,cell_of_row _ _ _ cur x.e (0,0) k3,cV,<- jS,k5]
           rw [List.getElem?_take] at hu
           split at hu
           . rw [ud (by omega)]; exact hu
           . cases hu)
         obtain ⟨cap,rest,h1,h2,h3,h4,h5⟩:=grow (some ⟨x.aE,0,none⟩) n c _ ho hvn (by omega) px
         rw [bN,h5]
         have dY:=h.grow (jM w)
         refine pt dY ((k6.take _).append sh) ?_ h3 h4 h1 h2
         intro u hu
         simp only [fB] at hu
         rcases hu with hu | hu
         . refine k7 u ?_
           rw [k5]
           exact List.mem_append_left _ (List.mem_of_mem_take hu)
         . exact xD u hu
     . trivial
   . trivial
 . trivial
end
end Go.Rip
namespace Go.Rip
open Go.RowKit
section
variable {C:cq} {g:Gh} {U:St} {w:World}
def dt (xo:Int):Option AV->Option Int
 | none=>some xo
 | some (.int _ n)=>some n
 | _=>none
def vp:j9->Option AV->j9
 | .full,none=>.full
 | _,_=>.jD
def GS (P:Program) (t:TypeId) (x:AV) (lo hi:Option AV):aD :=
 match x with
 | .str s=>match lY P t,dt 0 lo,dt s.length hi with
   | true,some l,some h=>.cond (0 <= l/\l <= h/\h <= s.length) (.val (.str ((s.take h.toNat).drop l.toNat)))
   | _,_,_=>.bad
 | .vec n cap l=>match eJ P t,dt 0 lo,dt n hi with
   | some (_,sz),some a,some b=>.cond (0 <= a/\a <= b/\b <= n) (.val (.vec (b.toNat - a.toNat) (vp cap hi) ((l.take (b.toNat * sz)).drop (a.toNat * sz))))
   | _,_,_=>.bad
 | .aw=>match eJ P t,dt 0 lo,dt 0 hi with
   | some (_,_),some a,some b=>.cond (a=0/\b=0) (.val .aw)
   | _,_,_=>.bad
 | .ms b off n ir e=>match eJ P t,dt 0 lo,dt n hi with
   | some (_,sz),some a,some h=>.cond (0 <= a/\a <= h/\h <= n/\(a < n\/a=0)/\ir=sz) (.val (.ms b (off+a.toNat * sz) (h.toNat - a.toNat) ir e))
   | _,_,_=>.bad
 | _=>.bad
theorem run_sliceBound {P:Program} {x:Value} {k:IntKind} {n:Int} {y:Nat} {code:BoundsCode} (hx:x=.int k n) (h0:0 <= n) (h1:n <= y):(Instr.sliceBound x y code).run P w=.ok n.toNat w:=by
 subst hx
 simp [Instr.sliceBound,asIntOf,h0,h1]
theorem AG {xo:Int} {o:Option AV} {v:Option Value} {n:Int} (hr:match o,v with | none,none=>True | some x,some u=>ay g x u | _,_=>False) (hb:dt xo o=some n) :
 (o=none/\v=none/\n=xo)\/∃ k u,v=some u/\u=.int k n/\∃ x,o=some x:=by
 cases o with
 | none =>
   cases v with
   | none=>simp [dt] at hb; exact .inl ⟨rfl,rfl,hb.symm⟩
   | some u=>exact hr.elim
 | some x =>
   cases v with
   | none=>exact hr.elim
   | some u =>
     cases x <;> simp only [dt,reduceCtorEq,gK] at hb
     subst hb
     simp only [ay] at hr
     exact .inr ⟨_,u,rfl,hr,_,rfl⟩
theorem mK {P:Program} {isS:Bool} {len cap:Nat} {lo hi:Option AV} {vl vh:Option Value} {a b:Int}
 (hl:match lo,vl with | none,none=>True | some x,some u=>ay g x u | _,_=>False) (hh:match hi,vh with | none,none=>True | some x,some u=>ay g x u | _,_=>False)
 (ha:dt 0 lo=some a) (hb:dt len hi=some b) (h0:0 <= a) (h1:a <= b) (h2:b <= len) (h3:len <= cap) :
 (Instr.sliceBounds isS len cap vl vh none).run P w=.ok (a.toNat,b.toNat,cap) w:=by
 rcases AG hl ha with ⟨_,rfl,rfl⟩ | ⟨k,u,rfl,hu,_⟩ <;> rcases AG hh hb with ⟨_,rfl,rfl⟩ | ⟨k',u',rfl,nN,_⟩
 . simp [Instr.sliceBounds]
 . have e1:∀ c,(Instr.sliceBound u' cap c).run P w=.ok b.toNat w:=fun c=>run_sliceBound nN (by omega) (by omega)
   simp [Instr.sliceBounds,e1]
 . have e1:∀ c,(Instr.sliceBound u len c).run P w=.ok a.toNat w:=fun c=>run_sliceBound hu h0 (by omega)
   simp [Instr.sliceBounds,e1]
 . have e1:∀ c,(Instr.sliceBound u' cap c).run P w=.ok b.toNat w:=fun c=>run_sliceBound nN (by omega) (by omega)
   have e2:∀ c,(Instr.sliceBound u b.toNat c).run P w=.ok a.toNat w:=fun c=>run_sliceBound hu h0 (by omega)
   simp [Instr.sliceBounds,e1,e2]
theorem H0 (h:a8 g U w) {t:TypeId} {x:AV} {v:Value} {lo hi:Option AV} {vl vh:Option Value} (hx:ay g x v)
 (hl:match lo,vl with | none,none=>True | some x,some u=>ay g x u | _,_=>False) (hh:match hi,vh with | none,none=>True | some x,some u=>ay g x u | _,_=>False) :
 aD.Fits C g U (GS C.P t x lo hi) ((do let r <- Instr.sliceAt t v vl vh none; pure (Next.value r):Sem Next).run C.P w):=by
 have jN:∀ aE off j,(⟨aE,off,none⟩:Addr).add j=⟨aE,off+j,none⟩:=fun aE off j=>by unfold Addr.add; split <;> simp_all
 unfold GS
 split
 . rename_i s
   split
   . rename_i a b ht ha hb
     rintro ⟨h0,h1,h2⟩
     simp only [ay] at hx
     subst hx
     have dQ:(ByteArray.mk s.toArray).size=s.length:=by simp [ByteArray.size]
     have hr:=mK (w:=w) (P:=C.P) (isS:=false) hl hh ha hb h0 h1 h2 (dk _)
     simp only [Instr.sliceAt,Instr.slice,run_underlying (ot ht),bN,ca,dQ,hr,ck,Option.isSome_none,bJ,if_false]
     refine aT h ?_
     simp only [ay]
     congr 1
     apply ByteArray.ext
     simp only [ByteArray.data_extract]
     apply Array.ext'
     simp [List.extract_eq_take_drop,List.drop_take]
   . trivial
 . rename_i n cap l
   split
   . rename_i e sz a b ht ha hb
     rintro ⟨h0,h1,h2⟩
     simp only [ay] at hx
     obtain ⟨aE,off,c,vs,rfl,Dl,uG,xE,mz,hr⟩:=hx
     obtain ⟨i,z,hu,jA,hz,uO,rfl,pw,_⟩:=gL ht
     have gi:=mK (w:=w) (P:=C.P) (isS:=true) hl hh ha hb h0 h1 h2 Dl
     simp only [Instr.sliceAt,Instr.slice,run_underlying hu,bN,ca,gi,ck,eg jA]
     refine aT h ?_
     have abe:ph g (vp cap hi) aE (if c=a.toNat then off else off+a.toNat * i.size) (b.toNat - a.toNat) (c - a.toNat):=by
      cases cap with
      | full =>
        cases hi with
        | none =>
          simp only [vp,ph] at xE ⊢
          simp only [dt,gK] at hb
          omega
        | some y=>trivial
      | own τ=>trivial
      | jD=>trivial
     simp only [ay]
     refine ⟨aE,if c=a.toNat then off else off+a.toNat * i.size,c - a.toNat,(vs.take (b.toNat * i.size)).drop (a.toNat * i.size),?_,by omega,by omega,abe,?_,(hr.take _).drop _⟩
     . simp only [Option.map_some,jN]
       split <;> rfl
     . split
       . rename_i e1
         have:(vs.take (b.toNat * i.size)).drop (a.toNat * i.size)=[]:=by
          rw [List.drop_eq_nil_iff]
          have:b.toNat <= a.toNat:=by omega
          have:=Nat.mul_le_mul_right i.size this
          simp; omega
         rw [this]; intro j u hu; simp at hu
       . intro j u hu
         rw [List.getElem?_drop,List.getElem?_take] at hu
         split at hu
         . have:=mz _ u hu
           rw [Nat.add_assoc]; exact this
         . cases hu
   . trivial
 . split
   . rename_i e sz a b ht ha hb
     rintro ⟨rfl,rfl⟩
     simp only [ay] at hx
     subst hx
     obtain ⟨i,z,hu,jA,hz,uO,rfl,pw,_⟩:=gL ht
     have gi:=mK (w:=w) (P:=C.P) (isS:=true) (len:=0) (cap:=0) hl hh ha (by simpa using hb) (by omega) (by omega) (by simp) (dk _)
     simp only [Instr.sliceAt,Instr.slice,run_underlying hu,bN,ca,gi,ck,eg jA]
     refine aT h (by simp [ay])
   . trivial
 . rename_i b off n ir e
   split
   . rename_i e' sz a hh' ht ha hb
     rintro ⟨h0,h1,h2,h3,rfl⟩
     simp only [ay] at hx
     obtain ⟨y,c,hy,rfl,Dl,uG,dQ,Yu⟩:=hx
     obtain ⟨i,z,hu,jA,hz,uO,rfl,pw,_⟩:=gL ht
     have gi:=mK (w:=w) (P:=C.P) (isS:=true) hl hh ha hb h0 h1 h2 Dl
     simp only [Instr.sliceAt,Instr.slice,run_underlying hu,bN,ca,gi,ck,eg jA]
     refine aT h ?_
     simp only [ay]
     have e2:off+a.toNat * i.size+(c - a.toNat) * i.size=y.size:=by
      have:a.toNat * i.size+(c - a.toNat) * i.size=c * i.size:=by rw [<- Nat.add_mul]; congr 1; omega
      omega
     refine ⟨y,c - a.toNat,hy,?_,by omega,by omega,e2,Yu⟩
     simp only [Option.map_some,jN]
     split
     . rename_i e1
       have h0a:a.toNat=0:=by omega
       simp [h0a]
     . rfl
   . trivial
 . trivial
def jC (op:UnOp) (x:AV):aD :=
 match op,x with
 | .not,.bool b=>.val (.bool (!b))
 | .neg,.int k n=>gP k (0 - n)
 | _,_=>.bad
theorem Hl (h:a8 g U w) (k:IntKind) (n:Int):aD.Fits C g U (gP k n) (.ok (.value (.int k (k.wrap n))) w):=by
 unfold gP
 split
 . intro hi
   rw [wB hi]
   exact aT h (by simp only [ay])
 . exact aT h (by simp only [ay])
theorem Sj (h:a8 g U w) {op:UnOp} {x:AV} {v:Value} (hx:ay g x v):aD.Fits C g U (jC op x) ((do let r <- Op.unary op v; pure (Next.value r):Sem Next).run C.P w):=by
 unfold jC
 split
 . simp only [ay] at hx; subst hx
   exact aT h (by simp only [ay])
 . simp only [ay] at hx; subst hx
   simp only [Op.unary,Op.intArith,bN,ck,ca]
   exact Hl h _ _
 . trivial
def J8 (P:Program) (t:TypeId):Option IntKind:=match P.underlying t with | some (.int k)=>some k | _=>none
def vI (P:Program) (t:TypeId):Bool:=match P.underlying t with
 | some (.slice e)=>match P.underlying e with
   | some (.int .u8)=>true
   | _=>false
 | _=>false
theorem Ee {P:Program} {t:TypeId} (h:vI P t=true):∃ e,P.underlying t=some (.slice e)/\P.underlying e=some (.int .u8):=by
 unfold vI at h
 split at h
 . rename_i e he
   split at h
   . rename_i hu; exact ⟨e,he,hu⟩
   . cases h
 . cases h
def En (P:Program) (src dst:TypeId) (x:AV):aD :=
 match J8 P dst,(P.underlying src).isSome,x with
 | some .i64,true,.int _ n=>.cond (uo n) (.val (.int .i64 n))
 | some k,true,.int _ n=>.val (.int k (k.wrap n))
 | none,true,.str s=>if lY P dst=true/\lY P src=true then .val (.str s) else
   if vI P dst=true/\lY P src=true then .cond (s.length <= 4294967296) (.val (.vec s.length .jD (s.map fun b=>.int .u8 b.toNat))) else .bad
 | _,_,_=>.bad
theorem Eh (h:a8 g U w) {src dst e:TypeId} {s:List UInt8} (hd:C.P.underlying dst=some (.slice e)) (he:C.P.underlying e=some (.int .u8)) (hs:C.P.underlying src=some .string) (hlen:s.length <= 4294967296) :
 aD.Fits C g U (.val (.vec s.length .jD (s.map fun b=>.int .u8 b.toNat))) ((do let r <- convert src dst (.string ⟨s.toArray⟩); pure (Next.value r):Sem Next).run C.P w):=by
 have gi:=Lib.run_convert_string_bytes (P:=C.P) w src dst e ⟨s.toArray⟩ hs hd he
 have dQ:(ByteArray.mk s.toArray).size=s.length:=by simp [ByteArray.size]
 rw [dQ] at gi
 have jo:=grownCap_ge w s.length 0 e
 have hle:=grownCap_le_maxLen w s.length 0 e (by unfold maxLen; omega)
 let vs:List Value:=s.map fun b=>.int .u8 b.toNat
 let g':Gh:={ g with bS:=fun aE o=>if aE=w.heap.size then vs[o]? else g.bS aE o }
 have oN:∀ o,g'.bS w.heap.size o=vs[o]?:=fun o=>by show (if w.heap.size=w.heap.size then _ else _)=_; rw [if_pos rfl]
 have hold:∀ aE o,aE ≠ w.heap.size->g'.bS aE o=g.bS aE o:=fun aE o hx=>by show (if aE=w.heap.size then _ else _)=_; rw [if_neg hx]
 have JW:Gh.Le g g':=⟨rfl,rfl,fun _ _ h=>h,fun aE o u hu=>by
  rw [hold _ _ (fun e=>by subst e; rw [h.yI (dk _)] at hu; cases hu)]; exact hu,fun _ _ h=>h,fun _ h=>h,fun q o hq=>hold _ _ (by have:=h.le; omega),fun _ _=>rfl⟩
 have dY:a8 g' U (Lib.bytesWorld w e ⟨s.toArray⟩):=by
  refine h.change w.heap.size h.le JW rfl rfl ⟨rfl,rfl,rfl,by rw [Lib.bytesWorld_size]; omega⟩ (fun k _ hk=>Lib.bytesWorld_at_old w e _ k hk) hold (fun _ _=>rfl) (fun o u hu=>?_) (fun es c hr=>?_) (fun b x p k1 k2=>Nat.ne_of_lt (h.vR k1 k2)) (h.CG (dk _))
  . rw [oN] at hu
    simp only [vs,ln,nX] at hu
    obtain ⟨b,hb,rfl⟩:=hu
    have aO:=(c8.1 hb).1
    refine ⟨?_,rfl⟩
    rw [Lib.bytesWorld_cell w e ⟨s.toArray⟩ o (by rw [dQ]; exact aO)]
    simp [List.getD,hb]
  . have:g.bI w.heap.size=some (es,c):=hr
    rw [h.vE (dk _)] at this; cases this
 simp only [bN,gi,ca,ck]
 refine ⟨_,_,g',.inl rfl,JW,dY,?_⟩
 simp only [ay]
 refine ⟨w.heap.size,0,_,vs,rfl,jo,hle,trivial,fun i u hu=>by rw [cV,oN]; exact hu,?_⟩
 refine az.Bs (by simp [vs]) fun i x v hx hv=>?_
 simp only [vs,ln,nX] at hx hv
 obtain ⟨b,hb,rfl⟩:=hx
 obtain ⟨b',eH,rfl⟩:=hv
 rw [hb] at eH; cases eH
 simp only [ay]
theorem Jx (h:a8 g U w) {src dst:TypeId} {x:AV} {v:Value} (hx:ay g x v):aD.Fits C g U (En C.P src dst x) ((do let r <- convert src dst v; pure (Next.value r):Sem Next).run C.P w):=by
 unfold En
 split
 . rename_i k n hk hs
   simp only [ay] at hx; subst hx
   have hu:C.P.underlying dst=some (.int .i64):=by unfold J8 at hk; split at hk <;> simp_all
   obtain ⟨d,hd⟩:=Option.isSome_iff_exists.1 hs
   intro hi
   simp only [convert,run_underlying hu,run_underlying hd,bN,ck,ca,Conv.intToInt]
   rw [wB hi]
   exact aT h (by simp only [ay])
 . rename_i k _ n _ hk hs
   simp only [ay] at hx; subst hx
   have hu:C.P.underlying dst=some (.int k):=by unfold J8 at hk; split at hk <;> simp_all
   obtain ⟨d,hd⟩:=Option.isSome_iff_exists.1 hs
   simp only [convert,run_underlying hu,run_underlying hd,bN,ck,ca,Conv.intToInt]
   exact aT h (by simp only [ay])
 . split
   . rename_i hc
     simp only [ay] at hx; subst hx
     simp only [convert,run_underlying (ot hc.1),run_underlying (ot hc.2),bN,ck,ca]
     exact aT h (by simp only [ay])
   . split
     . rename_i hc
       intro hlen
       simp only [ay] at hx; subst hx
       obtain ⟨e,hd,he⟩:=Ee hc.1
       exact Eh h hd he (ot hc.2) hlen
     . trivial
 . trivial
def xY (P:Program) (t:TypeId):Bool:=match P.underlying t with | some (.interface _)=>false | some _=>true | none=>false
def vM (P:Program) (t:TypeId) (x:AV):aD:=if xY P t=true then .val (.iface t x) else .bad
theorem Bo (h:a8 g U w) {t:TypeId} {x:AV} {v:Value} (hx:ay g x v):aD.Fits C g U (vM C.P t x) ((do let r <- Instr.makeInterface t v; pure (Next.value r):Sem Next).run C.P w):=by
 unfold vM
 split
 . rename_i hc
   unfold xY at hc
   split at hc
   . cases hc
   . rename_i d hn hd
     simp only [Instr.makeInterface,run_underlying hd,bN,ca]
     cases d
     case interface=>exact (hn _ rfl).elim
     all_goals
      simp only [ck,ca]
      exact aT h (by simp only [ay]; exact ⟨v,rfl,hx⟩)
   . cases hc
 . trivial
def aR (x:AV) (i:Nat):aD :=
 match x with
 | .aF l=>gJ (l.drop i)
 | _=>.bad
theorem Eb (h:a8 g U w) {x:AV} {v:Value} (hx:ay g x v) (i:Nat):aD.Fits C g U (aR x i) ((do let r <- Instr.extract v i; pure (Next.value r):Sem Next).run C.P w):=by
 unfold aR
 split
 . rename_i l
   simp only [ay] at hx
   obtain ⟨vs,rfl,hr⟩:=hx
   cases hd:l.drop i with
   | nil=>trivial
   | cons y ys =>
     have hy:l[i]?=some y:=by
      have:=congrArg (fun l=>l[0]?) hd
      simpa using this
     obtain ⟨u,hu,hyu⟩:=hr.get hy
     have e:vs.toArray[i]?=some u:=by simpa using hu
     simp only [Instr.extract,e,bN,ck,ca]
     exact aT h hyu
 . trivial
def sA (x:AV):aD :=
 match x with
 | .iface t v=>.panic (.iface t v)
 | _=>.bad
theorem HR (h:a8 g U w) {x:AV} {v:Value} (hx:ay g x v):aD.Fits C g U (sA x) ((do let r <- Instr.panic v; pure (Next.value r):Sem Next).run C.P w):=by
 unfold sA
 split
 . have km:=hx
   simp only [ay] at hx
   obtain ⟨u,rfl,hu⟩:=hx
   simp only [Instr.panic,bN,run_goPanic,Result.andThen_halt]
   exact ⟨_,w,rfl,h,km⟩
 . trivial
theorem Cy (h:a8 g U w) {ev:Operand->Value} {o:Oper} {X:Operand} {x:AV} (ho:o.op=.nilCheck X) (hx:ay g x (ev X)):aD.Fits C g U (aY x) ((execOp ev o).run C.P w):=by
 unfold aY
 split
 . have km:=hx
   simp only [ay] at hx
   obtain ⟨y,_,hv⟩:=hx
   simp only [execOp,ho,hv,ck]
   rw [hv] at km
   exact aT h km
 . have km:=hx
   simp only [ay] at hx
   obtain ⟨_,_,_,hv,_⟩:=hx
   simp only [execOp,ho,hv,ck]
   rw [hv] at km
   exact aT h km
 . have km:=hx
   simp only [ay] at hx
   obtain ⟨_,_,hv,_⟩:=hx
   simp only [execOp,ho,hv,ck]
   rw [hv] at km
   exact aT h km
 . trivial
def Kl (P:Program) (t:TypeId):Option Bool :=
 match P.underlying t with
 | some .string=>some true
 | some (.slice _)=>some false
 | _=>none
def Gg (P:Program) (t:TypeId) (x:AV) (U:St):aD :=
 match Kl P t,x with
 | some true,.str s=>.val (.int .i64 s.length)
 | some false,.vec n _ _=>.val (.int .i64 n)
 | some false,.ms _ _ n _ _=>.val (.int .i64 n)
 | some false,.aw=>.val (.int .i64 0)
 | _,_=>.bad
theorem tb {P:Program} {t:TypeId} {b:Bool} (h:Kl P t=some b):(b=true/\P.underlying t=some .string)\/(b=false/\∃ e,P.underlying t=some (.slice e)):=by
 unfold Kl at h
 split at h
 . rename_i e; simp at h; exact .inl ⟨h,e⟩
 . rename_i e' e; simp at h; exact .inr ⟨h,_,e⟩
 . cases h
theorem MU (h:a8 g U w) {t ty:TypeId} {x:AV} {v:Value} (hx:ay g x v):aD.Fits C g U (Gg C.P t x U) ((do let r <- Builtin.len_ #[t] ty #[v]; pure (Next.value r):Sem Next).run C.P w):=by
 unfold Gg
 split
 . rename_i s F0
   have hu:C.P.underlying t=some .string:=by rcases tb F0 with ⟨_,h⟩ | ⟨h,_⟩ <;> first | exact h | cases h
   simp only [ay] at hx; subst hx
   have dQ:(ByteArray.mk s.toArray).size=s.length:=by simp [ByteArray.size]
   simp [Builtin.len_,run_underlying hu,goInt,dQ]
   exact aT h (by simp only [ay])
 . rename_i F0
   obtain ⟨e0,hu⟩:∃ e,C.P.underlying t=some (.slice e):=by rcases tb F0 with ⟨h,_⟩ | ⟨_,h⟩ <;> first | exact h | cases h
   simp only [ay] at hx
   obtain ⟨_,_,_,_,rfl,_⟩:=hx
   simp [Builtin.len_,run_underlying hu,goInt]
   exact aT h (by simp only [ay])
 . rename_i F0
   obtain ⟨e0,hu⟩:∃ e,C.P.underlying t=some (.slice e):=by rcases tb F0 with ⟨h,_⟩ | ⟨_,h⟩ <;> first | exact h | cases h
   simp only [ay] at hx
   obtain ⟨_,_,_,rfl,_⟩:=hx
   simp [Builtin.len_,run_underlying hu,goInt]
   exact aT h (by simp only [ay])
 . rename_i F0
   obtain ⟨e0,hu⟩:∃ e,C.P.underlying t=some (.slice e):=by rcases tb F0 with ⟨h,_⟩ | ⟨_,h⟩ <;> first | exact h | cases h
   simp only [ay] at hx; subst hx
   simp [Builtin.len_,run_underlying hu,goInt]
   exact aT h (by simp only [ay])
 . trivial
def xV (x y:AV):aD :=
 match x,y with
 | .int k a,.int k' b=>if k=k' then .val (.int k (if b < a then b else a)) else .bad
 | _,_=>.bad
def z7 (x y:AV):aD :=
 match x,y with
 | .int k a,.int k' b=>if k=k' then .val (.int k (if b > a then b else a)) else .bad
 | _,_=>.bad
theorem MZ (h:a8 g U w) {ts:Array TypeId} {ty:TypeId} {x y:AV} {v u:Value} (hx:ay g x v) (hy:ay g y u):aD.Fits C g U (z7 x y) ((do let r <- Builtin.max_ ts ty #[v,u]; pure (Next.value r):Sem Next).run C.P w):=by
 unfold z7
 split
 . split
   . rename_i e; subst e
     simp only [ay] at hx hy; subst hx hy
     simp [Builtin.max_,Builtin.max2]
     exact aT h (by simp only [ay])
   . trivial
 . trivial
theorem M0 (h:a8 g U w) {ts:Array TypeId} {ty:TypeId} {x y:AV} {v u:Value} (hx:ay g x v) (hy:ay g y u):aD.Fits C g U (xV x y) ((do let r <- Builtin.min_ ts ty #[v,u]; pure (Next.value r):Sem Next).run C.P w):=by
 unfold xV
 split
 . split
   . rename_i e; subst e
     simp only [ay] at hx hy; subst hx hy
     simp [Builtin.min_,Builtin.min2]
     exact aT h (by simp only [ay])
   . trivial
 . trivial
end
end Go.Rip
namespace Go.Rip
open Go.RowKit
section
variable {C:cq} {g:Gh} {U:St} {w:World}
def fm (place:Nat->Option (Nat × Nat)):List (Nat × AV)->List AV->(List AV->aD)->aD
 | [],z,k=>k z
 | (i,x)::rest,z,k=>match place i with
   | some (off,size)=>.cond (x.cQ=true/\(au x).length=size/\off+size <= z.length) (fm place rest (aB z off (au x)) k)
   | none=>.bad
theorem xw (off:Nat):∀ (l:List Value) (j:Nat) (cs:Array Value),off+j+l.length <= cs.size ->
 ((l.zipIdx j).foldl (fun (cs:Array Value) (p:Value × Nat)=>cs.setIfInBounds (off+p.2) p.1) cs).toList=cs.toList.take (off+j)++l++cs.toList.drop (off+j+l.length)
 | [],j,cs,_=>by simp
 | v::l,j,cs,hle=>by
   simp only [List.zipIdx_cons,List.foldl_cons]
   simp only [jf] at hle
   rw [xw off l (j+1) _ (by simp; omega)]
   have hs:=list_seg_step cs.toList (off+j) v l (by simpa using hle)
   rw [Array.toList_setIfInBounds]
   rw [show off+(j+1)=off+j+1 from rfl]
   exact hs
theorem sT {place:Nat->Option (Nat × Nat)} {k:List AV->aD} {kk:Array Value->Sem Value} {S:String}
 (hk:∀ (z:List AV) (cs:Array Value),az g z cs.toList->(∀ u ∈ cs.toList,u.oneCell'=true)->aD.Fits C g U (k z) ((do let r <- kk cs; pure (Next.value r):Sem Next).run C.P w)) :
 ∀ (parts:List (Nat × AV)) (vs:List (Nat × Value)) (z:List AV) (cs:Array Value),vs.length=parts.length->(∀ (i:Nat) (p:Nat × AV) (q:Nat × Value),parts[i]?=some p->vs[i]?=some q->p.1=q.1/\ay g p.2 q.2) ->
  az g z cs.toList->(∀ u ∈ cs.toList,u.oneCell'=true) ->
  aD.Fits C g U (fm place parts z k) ((do let r <- (match Instr.fill place cs vs with | some AK=>kk AK | none=>stuck S); pure (Next.value r):Sem Next).run C.P w)
 | [],[],z,cs,_,_,hz,h1=>by
   simp only [fm,Instr.fill]
   exact hk z cs hz h1
 | [],_::_,_,_,h,_,_,_=>by simp at h
 | _::_,[],_,_,h,_,_,_=>by simp at h
 | (i,x)::parts,(j,v)::vs,z,cs,hl,hp,hz,h1=>by
   obtain ⟨rfl,hx⟩:=hp 0 _ _ rfl rfl
   dsimp only at hx ⊢
   simp only [fm]
   cases k9:place i with
   | none=>trivial
   | some os =>
     obtain ⟨off,size⟩:=os
     rintro ⟨a1,a2,a3⟩
     obtain ⟨uF,zi⟩:=xk hx a1
     have hlen:=uF.length
     have F3:=hz.length
     have xO:v.cells.size=size:=by rw [<- qT,hlen,a2]
     have hcz:off+v.cells.size <= cs.size:=by rw [xO,<- qT,F3]; exact a3
     have e:(v.cells.zipIdx.foldl (fun (cs:Array Value) (p:Value × Nat)=>cs.setIfInBounds (off+p.2) p.1) cs).toList=cs.toList.take off++v.cells.toList++cs.toList.drop (off+v.cells.toList.length):=by
      rw [<- Array.foldl_toList,Array.toList_zipIdx]
      have:=xw off v.cells.toList 0 cs (by simpa using hcz)
      simpa using this
     have abf:(v.cells.size ≠ size || off+v.cells.size > cs.size)=false:=by simp [xO]; omega
     simp only [Instr.fill,k9]
     rw [if_neg (by rw [abf]; simp)]
     refine sT hk parts vs _ _ (by simpa using hl) (fun i p q h2 h3=>hp (i+1) p q (by simpa using h2) (by simpa using h3)) ?_ ?_
     . show az g (aB z off (au x)) (v.cells.zipIdx.foldl (fun (cs:Array Value) (p:Value × Nat)=>cs.setIfInBounds (off+p.2) p.1) cs).toList
       rw [e]
       unfold aB
       rw [hlen]
       exact ((hz.take _).append uF).append (hz.drop _)
     . show ∀ u ∈ (v.cells.zipIdx.foldl (fun (cs:Array Value) (p:Value × Nat)=>cs.setIfInBounds (off+p.2) p.1) cs).toList,u.oneCell'=true
       rw [e]
       intro u hu
       simp only [fB] at hu
       rcases hu with (hu | hu) | hu
       . exact h1 u (List.mem_of_mem_take hu)
       . exact zi u hu
       . exact h1 u (List.mem_of_mem_drop hu)
def kZ (C:cq) (ρ:Env) (parts:Array (Nat × Operand)):List (Nat × AV):=parts.toList.map fun p=>(p.1,ρ.ev C p.2)
def E9 (P:Program) (t:TypeId) (parts:List (Nat × AV)):aD :=
 match yU P t,oL P t with
 | some pl,some z=>fm (fun i=>pl[i]?) parts z fun z=>.val (.agg z)
 | none,some z=>match tM P t with
   | some (_,_,sz)=>fm (fun i=>some (i * sz,sz)) parts z fun z=>.val (.agg z)
   | none=>.bad
 | _,_=>.bad
theorem GZ {P:Program} {t:TypeId} {pl:List (Nat × Nat)} (h:yU P t=some pl):∃ fs:Array Field,P.underlying t=some (.struct fs)/\pl=fs.toList.map (fun f=>(f.offset,P.cellsOf f.type)) /\
 (fs.mapM (fun f=>do pure (f.offset,<- sizeOf f.type):Field->Sem (Nat × Nat))).run P w=.ok pl.toArray w:=by
 unfold yU at h
 split at h
 . rename_i fs hu
   split at h
   . rename_i bO
     simp only [gK] at h
     refine ⟨fs,hu,h.symm,?_⟩
     rw [Array.mapM_eq_mapM_toList]
     rw [Array.all_eq_true_iff_forall_mem] at bO
     have key:∀ l:List Field,(∀ f ∈ l,(P.info? f.type).isSome=true)->(l.mapM (fun f=>do pure (f.offset,<- sizeOf f.type):Field->Sem (Nat × Nat))).run P w=.ok (l.map fun f=>(f.offset,P.cellsOf f.type)) w:=by
      intro l
      induction l with
      | nil=>intro _; simp
      | cons f l ih =>
        intro hf
        obtain ⟨i,hi⟩:=Option.isSome_iff_exists.1 (hf f (by simp))
        have ih':=ih fun x hx=>hf x (by simp [hx])
        have hc:P.cellsOf f.type=i.size:=by simp [Program.cellsOf,hi]
        simp only [List.mapM_cons,bN,eg hi,ca,ck,ih',dV,hc]
     have:=key fs.toList (fun f hf=>bO f (by simpa using hf))
     simp only [Sem.run_map,this,ca,h]
   . cases h
 . cases h
theorem Ho (h:a8 g U w) {t:TypeId} {parts:List (Nat × AV)} {vs:Array (Nat × Value)} (hl:vs.size=parts.length) (hp:∀ (i:Nat) (p:Nat × AV) (q:Nat × Value),parts[i]?=some p->vs[i]?=some q->p.1=q.1/\ay g p.2 q.2) :
 aD.Fits C g U (E9 C.P t parts) ((do let r <- Instr.build t vs; pure (Next.value r):Sem Next).run C.P w):=by
 unfold E9
 split
 . rename_i pl z hs hz
   obtain ⟨fs,hu,k9,gi⟩:=GZ (w:=w) hs
   obtain ⟨i,zv,hi,sj,hm⟩:=lV hz
   obtain ⟨h1,h2⟩:=ef (g:=g) hm
   have key:=sT (C:=C) (g:=g) (U:=U) (w:=w) (place:=fun i=>pl.toArray[i]?) (k:=fun z=>.val (.agg z)) (kk:=fun cs=>pure (.agg cs)) (S := "build: no such field, or a part of the wrong size") (fun z cs hz h1=>by
    simp only [bN,ck,ca]
    exact aT h (by simp only [ay]; exact ⟨cs.toList,by simp,h1,hz⟩)) parts vs.toList z zv.cells (by simpa using hl) (fun i p q h1 h2=>hp i p q h1 (by simpa using h2)) h1 h2
   have e:(fun i:Nat=>pl.toArray[i]?)=fun i=>pl[i]?:=by funext i; simp
   rw [<- e]
   simp only [Instr.build,bN,fT hi sj,ca,run_underlying hu,gi]
   cases hf:Instr.fill (fun i:Nat=>pl.toArray[i]?) zv.cells vs.toList with
   | none=>simp only [hf,bN,run_stuck,Result.andThen_halt] at key ⊢; exact key
   | some AK=>simp only [hf,bN,ck,ca] at key ⊢; exact key
 . rename_i z hs hz
   split
   . rename_i n e sz ha
     obtain ⟨ie,hu,hie,dQ⟩:=sP ha
     obtain ⟨i,zv,hi,sj,hm⟩:=lV hz
     obtain ⟨h1,h2⟩:=ef (g:=g) hm
     have key:=sT (C:=C) (g:=g) (U:=U) (w:=w) (place:=fun i=>some (i * sz,sz)) (k:=fun z=>.val (.agg z)) (kk:=fun cs=>pure (.agg cs)) (S := "build: a part of the wrong size") (fun z cs hz h1=>by
      simp only [bN,ck,ca]
      exact aT h (by simp only [ay]; exact ⟨cs.toList,by simp,h1,hz⟩)) parts vs.toList z zv.cells (by simpa using hl) (fun i p q h1 h2=>hp i p q h1 (by simpa using h2)) h1 h2
     simp only [Instr.build,bN,fT hi sj,ca,run_underlying hu,eg hie,dQ]
     cases hf:Instr.fill (fun i:Nat=>some (i * sz,sz)) zv.cells vs.toList with
     | none=>simp only [hf,bN,run_stuck,Result.andThen_halt] at key ⊢; exact key
     | some AK=>simp only [hf,bN,ck,ca] at key ⊢; exact key
   . trivial
 . trivial
end
end Go.Rip
namespace Go.Rip
open Go.RowKit
section
variable {C:cq} {g:Gh} {U:St} {w:World}
def bF:Nat->List AV->List AV
 | 0,_=>[]
 | n+1,z=>z++bF n z
theorem kf (z:List AV):∀ n,(bF n z).length=n * z.length
 | 0=>by simp [bF]
 | n+1=>by simp [bF,kf z n,Nat.add_mul]; omega
theorem rN {z:List AV} {zv:Array Value} (hz:az g z zv.toList):∀ n,az g (bF n z) ((Array.range (n * zv.size)).map (zv[· % zv.size]!)).toList:=fun n=>by
 have hl:z.length=zv.size:=by rw [<- hz.length]; simp
 refine az.Bs (by simp [kf,hl]) fun i x v hx hv=>?_
 have key:∀ n i x,(bF n z)[i]?=some x->z[i % zv.size]?=some x:=fun n=>by
  induction n with
  | zero=>intro i x hx; simp [bF] at hx
  | succ n ih =>
    intro i x hx
    simp only [bF] at hx
    by_cases hi:i < z.length
    . rw [ud hi] at hx
      rw [Nat.mod_eq_of_lt (by omega)]; exact hx
    . rw [List.getElem?_append_right (by omega)] at hx
      have:=ih _ _ hx
      rw [hl,<- Nat.mod_eq_sub_mod (by omega)] at this
      exact this
 have km:=key n i x hx
 obtain ⟨u,hu,hr⟩:=hz.get km
 simp only [Array.toList_map,ln,nX] at hv
 obtain ⟨j,hj,rfl⟩:=hv
 have Iv:j=i:=by
  rw [jS,Array.getElem?_range] at hj
  split at hj
  . simp at hj; exact hj.symm
  . cases hj
 subst Iv
 have aO:j % zv.size < zv.size:=by
  have:=(c8.1 hu).1
  simpa using this
 rw [getElem!_pos zv _ aO]
 rw [jS,getElem?_pos zv _ aO] at hu
 cases hu
 exact hr
def qo (P:Program) (t:TypeId) (n:Nat) (mu:Bool) (parts:List (Nat × AV)):aD :=
 match eJ P t with
 | some (e,sz)=>match oL P e with
   | some z=>.cond (n * sz <= 16777216) (fm (fun i=>some (i * sz,sz)) parts (bF n z) fun cs=>.cond (cs.length=n * sz) (if mu then .nF n sz e none cs else .val (.vec n .full cs)))
   | none=>.bad
 | none=>.bad
theorem zT (h:a8 g U w) {t:TypeId} {n:Nat} {mu:Bool} {parts:List (Nat × AV)} {vs:Array (Nat × Value)} (hl:vs.size=parts.length) (hp:∀ (i:Nat) (p:Nat × AV) (q:Nat × Value),parts[i]?=some p->vs[i]?=some q->p.1=q.1/\ay g p.2 q.2) :
 aD.Fits C g U (qo C.P t n mu parts) ((do let r <- Instr.buildSlice t n vs; pure (Next.value r):Sem Next).run C.P w):=by
 unfold qo
 split
 . rename_i e sz hs
   split
   . rename_i z hz
     intro hn
     obtain ⟨i,zv,hu,hi,mZ,uO,rfl,pw,_,h1⟩:=gL hs
     obtain ⟨i',zv',jA,sj,hm⟩:=lV hz
     rw [hi] at jA; cases jA
     rw [mZ] at sj; cases sj
     obtain ⟨h1,h2⟩:=ef (g:=g) hm
     have FP:¬ (n * i.size > 2 ^ 24):=by omega
     have Yw:=rN (g:=g) h1 n
     have key:=sT (C:=C) (g:=g) (U:=U) (w:=w) (place:=fun j=>some (j * i.size,i.size)) (k:=fun cs=>.cond (cs.length=n * i.size) (if mu then .nF n i.size e none cs else .val (.vec n .full cs)))
      (kk:=fun cs=>do pure (.slice (some (<- newRow e cs)) n n)) (S := "buildSlice: a part of the wrong size") (fun z cs hz uF=>by
      intro hlen
      have sb:cs.size=n * i.size:=by rw [<- qT,hz.length,hlen]
      have Dm:n <= maxLen:=by
       have:n <= n * i.size:=Nat.le_mul_of_pos_right _ pw
       unfold maxLen; omega
      simp only [newRow,bN,ck,run_newObj,ca]
      split
      . have:=pt (C:=C) (del:=none) (e:=e) (sz:=i.size) (n:=n) (c:=n) h (vs:=cs.toList) (rest:=[]) hz uF (by simp) (by simp [sb]) (dk _) Dm
        simpa using this
      . obtain ⟨g',hle,mz,_,_,dY⟩:=h.M7 e cs cs.toList [] (by simp) uF
        refine ⟨_,_,g',.inl rfl,hle,dY,?_⟩
        simp only [ay]
        exact ⟨w.heap.size,0,n,cs.toList,rfl,dk _,Dm,rfl,mz,hz.mono hle⟩) parts vs.toList (bF n z) ((Array.range (n * zv.cells.size)).map (zv.cells[· % zv.cells.size]!)) (by simpa using hl) (fun i p q h1 h2=>hp i p q h1 (by simpa using h2)) Yw (by
        intro u hu
        simp only [Array.toList_map,List.mem_map] at hu
        obtain ⟨j,_,rfl⟩:=hu
        have aO:j % zv.cells.size < zv.cells.size:=Nat.mod_lt _ (by omega)
        rw [getElem!_pos zv.cells _ aO]
        exact h2 _ (by simp))
     simp only [Instr.buildSlice,bN,run_underlying hu,eg hi,ca,if_neg FP,eD,fT hi mZ,ck]
     by_cases h0:n * i.size=0
     . have zl:n=0:=by
        rcases Nat.mul_eq_zero.1 h0 with h | h
        . exact h
        . omega
       subst zl
       simp only [Nat.zero_mul,if_true,ca] at key ⊢
       have e1:(Array.range 0).map ((#[]:Array Value)[· % (#[]:Array Value).size]!)=(Array.range 0).map (zv.cells[· % zv.cells.size]!):=by simp
       rw [e1]
       cases hf:Instr.fill (fun j=>some (j * i.size,i.size)) ((Array.range 0).map (zv.cells[· % zv.cells.size]!)) vs.toList with
       | none=>simp only [hf,bN,run_stuck,Result.andThen_halt] at key ⊢; exact key
       | some AK=>simp only [hf,bN,ck,ca] at key ⊢; exact key
     . simp only [if_neg h0,ca]
       rw [uO] at key ⊢
       cases hf:Instr.fill (fun j=>some (j * i.size,i.size)) ((Array.range (n * i.size)).map (zv.cells[· % i.size]!)) vs.toList with
       | none=>simp only [hf,bN,run_stuck,Result.andThen_halt] at key ⊢; exact key
       | some AK=>simp only [hf,bN,ck,ca] at key ⊢; exact key
   . trivial
 . trivial
def pF (P:Program) (t:TypeId):Option (FK × TypeId) :=
 match P.underlying t with
 | some (.map k e)=>match P.underlying k with
   | some (.int _)=>some (.i,e)
   | some .string=>some (.s,e)
   | _=>none
 | _=>none
def gk:FK->AV->AV->Option Bool
 | .i,.int k a,.int k' b=>if k=k' then some (a == b) else none
 | .s,.str a,.str b=>some (a == b)
 | _,_,_=>none
def oG:FK->AV->Bool
 | .i,.int _ _=>true
 | .s,.str _=>true
 | _,_=>false
def kj (fk:FK) (k:AV):List AV->Nat->Option (Option Nat)
 | [],_=>some none
 | y::ys,i=>match gk fk k y with
   | none=>none
   | some b=>if b=true then some (some i) else kj fk k ys (i+1)
def fR (k v:AV):List AV->List AV->List AV × List AV
 | [],_=>([k],[v])
 | y::ys,ws=>if iz k y=true then (k::y::ys,v::ws) else
   match ws with
   | []=>([k],[v])
   | x::xs=>(y::(fR k v ys xs).1,x::(fR k v ys xs).2)
def pG (P:Program) (t:TypeId) (m k v:AV) (U:St):aD :=
 match pF P t,m with
 | some (fk,_),.mp id=>match U.mp id with
   | some (ks,vs)=>match kj fk k ks 0,oG fk k with
     | some none,true=>.gx (.aF []) id (.mp (fR k v ks vs).1 (fR k v ks vs).2)
     | some (some i),true=>.gx (.aF []) id (.mp ks (vs.set i v))
     | _,_=>.bad
   | none=>.bad
 | _,_=>.bad
def jb (U:St):AV->Option (List AV × List AV)
 | .mp id=>U.mp id
 | .eZ ks vs=>some (ks,vs)
 | .jq=>some ([],[])
 | _=>none
def lI (fk:FK) (k:AV) (xo:AV) (ok:Bool):List AV->List AV->aD
 | y::ys,v::vs=>match gk fk k y with
   | none=>.bad
   | some b=>if b=true then .val (if ok then .aF [v,.bool true] else v) else lI fk k xo ok ys vs
 | _,_=>.val (if ok then .aF [xo,.bool false] else xo)
def zeroV (P:Program) (t:TypeId):Option AV:=((P.info? t).bind (·.zero)).map C6
def uW (P:Program) (t:TypeId) (m k:AV) (ok:Bool) (U:St):aD :=
 match pF P t,jb U m with
 | some (fk,e),some (ks,vs)=>match zeroV P e,oG fk k with
   | some z,true=>lI fk k z ok ks vs
   | _,_=>.bad
 | _,_=>.bad
theorem xT {P:Program} {t e:TypeId} {fk:FK} (h:pF P t=some (fk,e)):∃ k,P.underlying t=some (.map k e)/\((fk=.i/\∃ q,P.underlying k=some (.int q))\/(fk=.s/\P.underlying k=some .string)):=by
 unfold pF at h
 split at h
 . rename_i k e' hu
   split at h
   . rename_i q hq
     simp only [gK,ik] at h
     obtain ⟨rfl,rfl⟩:=h
     exact ⟨k,hu,.inl ⟨rfl,q,hq⟩⟩
   . rename_i hq
     simp only [gK,ik] at h
     obtain ⟨rfl,rfl⟩:=h
     exact ⟨k,hu,.inr ⟨rfl,hq⟩⟩
   . cases h
 . cases h
theorem rA {P:Program} {k:TypeId} {fk:FK} {d:TypeDesc} (hd:P.underlying k=some d) (hk:(fk=.i/\∃ q,d=.int q)\/(fk=.s/\d=.string)) {x y:AV} {u v:Value} {b:Bool} (hx:ay g x u) (hy:ay g y v) (h:gk fk x y=some b) :
 Instr.sameNow d u v=some b:=by
 rcases hk with ⟨rfl,q,rfl⟩ | ⟨rfl,rfl⟩ <;> cases x <;> cases y <;> simp only [gk,reduceCtorEq] at h
 . split at h
   . rename_i e; subst e
     simp only [ay] at hx hy; subst hx hy
     simp at h; subst h
     simp [Instr.sameNow]
   . cases h
 . simp only [ay] at hx hy; subst hx hy
   simp only [gK] at h; subst h
   simp only [Instr.sameNow,beq_toListBytes,ByteArray.toList_eq,List.toList_toArray]
theorem findNow_spec {d:TypeDesc} {u:Value}:∀ (es:List MapEntry) (i:Nat),(∀ e ∈ es,∃ b,Instr.sameNow d u e.key=some b) ->
 ((∀ e ∈ es,Instr.sameNow d u e.key=some false)/\Instr.findNow d u es i=some none) \/
 (∃ j e,es[j]?=some e/\Instr.sameNow d u e.key=some true/\Instr.findNow d u es i=some (some (i+j,e.val)))
 | [],i,_=>.inl ⟨by simp,by simp [Instr.findNow]⟩
 | e::es,i,h=>by
   obtain ⟨b,hb⟩:=h e (by simp)
   cases b
   . rcases findNow_spec es (i+1) (fun x hx=>h x (by simp [hx])) with ⟨h1,h2⟩ | ⟨j,e',h1,h2,h3⟩
     . refine .inl ⟨fun x hx=>?_,by simp [Instr.findNow,hb,h2]⟩
       rcases cD.1 hx with rfl | hx
       . exact hb
       . exact h1 x hx
     . exact .inr ⟨j+1,e',by simpa using h1,h2,by simp [Instr.findNow,hb,h3]; omega⟩
   . exact .inr ⟨0,e,by simp,hb,by simp [Instr.findNow,hb]⟩
theorem tU {fk:FK} {k y:AV} (h:gk fk k y=some true):k=y:=by
 cases fk <;> cases k <;> cases y <;> simp only [gk,reduceCtorEq] at h
 . split at h
   . rename_i e; subst e; simp at h; rw [h]
   . cases h
 . simp at h; rw [h]
theorem Kf (k:AV):iz k k=false:=by
 cases k <;> simp [iz]
theorem HL {a b c:AV} (h:iz a b=true) (h':iz b c=true):iz a c=true:=by
 cases a <;> cases b <;> simp only [iz,bJ] at h <;> cases c <;> simp only [iz,bJ,bL,dI] at h h' ⊢
 . exact ⟨h.1.trans h'.1,by omega⟩
 . exact List.lt_trans h h'
theorem Rb {fk:FK} {k y:AV} (h:gk fk k y=some false):iz k y=true\/iz y k=true:=by
 cases fk <;> cases k <;> cases y <;> simp only [gk,reduceCtorEq] at h
 . split at h
   . rename_i e; subst e; simp at h; simp [iz]; omega
   . cases h
 . simp at h
   simp only [iz,dI]
   rcases Classical.em ((_:List UInt8) < _) with hl | hl
   . exact .inl hl
   . refine .inr ?_
     rcases Classical.em ((_:List UInt8) < _) with se | se
     . exact se
     . exact absurd (List.le_antisymm (List.not_lt.1 se) (List.not_lt.1 hl)) h
theorem Bh {fk:FK} {k y z:AV} (h:gk fk k y=some true) (hz:iz y z=true\/iz z y=true):∃ b,gk fk k z=some b:=by
 have:=tU h
 subst this
 cases fk <;> cases k <;> cases z <;> simp [gk,iz] at h hz ⊢
 rcases hz with ⟨e,_⟩ | ⟨e,_⟩
 . exact e
 . exact e.symm
theorem vu {fk:FK} {k:AV}:∀ {ks:List AV} {s:Nat} {r:Option Nat},kj fk k ks s=some r ->
 (r=none/\∀ y ∈ ks,gk fk k y=some false)\/(∃ i,r=some (s+i)/\∃ y,ks[i]?=some y/\gk fk k y=some true)
 | [],s,r,h=>by simp only [kj,gK] at h; exact .inl ⟨h.symm,by simp⟩
 | y::ys,s,r,h=>by
   simp only [kj] at h
   split at h
   . cases h
   . rename_i b hb
     cases b
     . simp only [bJ,if_false] at h
       rcases vu h with ⟨h1,h2⟩ | ⟨i,h1,z,h2,h3⟩
       . refine .inl ⟨h1,fun z hz=>?_⟩
         rcases cD.1 hz with rfl | hz
         . exact hb
         . exact h2 z hz
       . exact .inr ⟨i+1,by rw [h1]; congr 1; omega,z,by simpa using h2,h3⟩
     . simp only [if_true,gK] at h
       exact .inr ⟨0,by rw [<- h]; rfl,y,by simp,hb⟩
theorem KW {ks:List AV} (h:oc ks) {i j:Nat} {y:AV} (hi:ks[i]?=some y) (hj:ks[j]?=some y):i=j:=by
 have key:∀ i j,i < j->ks[i]?=some y->ks[j]?=some y->False:=fun i j fJ hi hj=>by
  obtain ⟨h1,h2⟩:=c8.1 hi
  obtain ⟨h3,h4⟩:=c8.1 hj
  have:=List.pairwise_iff_getElem.1 h i j h1 h3 fJ
  rw [h2,h4,Kf] at this; cases this
 rcases Nat.lt_trichotomy i j with h | h | h
 . exact (key i j h hi hj).elim
 . exact h
 . exact (key j i h hj hi).elim
theorem zV {P:Program} {kt:TypeId} {fk:FK} {d:TypeDesc} (hd:P.underlying kt=some d) (hk:(fk=.i/\∃ q,d=.int q)\/(fk=.s/\d=.string)) {x:AV} {u:Value} (hx:ay g x u)
 {ks:List AV} {l es:List MapEntry} (hp:l.Perm es) (hs:oc ks) (hr:az g ks (l.map (·.key))) {r:Option Nat} (h:kj fk x ks 0=some r) :
 (r=none/\(∀ y ∈ ks,gk fk x y=some false)/\∀ i,Instr.findNow d u es i=some none) \/
 (∃ i j e,r=some i/\ks[i]?=some x/\l[i]?=some e/\es[j]?=some e/\ay g x e.key/\∀ s,Instr.findNow d u es s=some (some (s+j,e.val))):=by
 have mem:∀ e ∈ es,∃ i y,ks[i]?=some y/\l[i]?=some e/\ay g y e.key:=fun e he=>by
  obtain ⟨i,hi⟩:=List.getElem?_of_mem (hp.mem_iff.2 he)
  have aO:i < ks.length:=by
   have h1:=(c8.1 hi).1
   have:=hr.length
   simp at this; omega
  obtain ⟨v,hv,Mz⟩:=hr.get (i:=i) (x:=ks[i]) (nj aO)
  rw [ln,hi] at hv
  simp at hv
  subst hv
  exact ⟨i,ks[i],nj aO,hi,Mz⟩
 rcases vu h with ⟨rfl,h1⟩ | ⟨i,rfl,y,h1,h2⟩
 . refine .inl ⟨rfl,h1,fun s=>?_⟩
   have hf:∀ e ∈ es,Instr.sameNow d u e.key=some false:=fun e he=>by
    obtain ⟨i,y,hy,_,MD⟩:=mem e he
    exact rA (P:=P) hd hk hx MD (h1 y (fj hy))
   rcases findNow_spec es s (fun e he=>⟨_,hf e he⟩) with ⟨_,h2⟩ | ⟨j,e,q1,q2,_⟩
   . exact h2
   . rw [hf e (fj q1)] at q2; cases q2
 . have MC:=tU h2
   subst MC
   have all:∀ z ∈ ks,∃ b,gk fk x z=some b:=fun z hz=>by
    obtain ⟨j,hj⟩:=List.getElem?_of_mem hz
    rcases Nat.lt_trichotomy i j with fJ | fJ | fJ
    . obtain ⟨a1,a2⟩:=c8.1 h1
      obtain ⟨a3,a4⟩:=c8.1 hj
      have:=List.pairwise_iff_getElem.1 hs i j a1 a3 fJ
      rw [a2,a4] at this
      exact Bh h2 (.inl this)
    . subst fJ; rw [h1] at hj; cases hj; exact ⟨_,h2⟩
    . obtain ⟨a1,a2⟩:=c8.1 h1
      obtain ⟨a3,a4⟩:=c8.1 hj
      have:=List.pairwise_iff_getElem.1 hs j i a3 a1 fJ
      rw [a2,a4] at this
      exact Bh h2 (.inr this)
   have same:∀ e ∈ es,∃ b,Instr.sameNow d u e.key=some b:=fun e he=>by
    obtain ⟨i,y,hy,_,MD⟩:=mem e he
    obtain ⟨b,hb⟩:=all y (fj hy)
    exact ⟨b,rA (P:=P) hd hk hx MD hb⟩
   have FL:∃ e0,l[i]?=some e0/\ay g x e0.key:=by
    obtain ⟨v,hv,Mz⟩:=hr.get h1
    rw [ln,nX] at hv
    obtain ⟨e0,h3,rfl⟩:=hv
    exact ⟨e0,h3,Mz⟩
   obtain ⟨e0,sY,XR⟩:=FL
   have h0s:Instr.sameNow d u e0.key=some true:=rA (P:=P) hd hk hx XR h2
   have h0m:e0 ∈ es:=hp.mem_iff.1 (fj sY)
   have pick:∀ s,∃ j,es[j]?=some e0/\Instr.findNow d u es s=some (some (s+j,e0.val)):=fun s=>by
    rcases findNow_spec es s same with ⟨q1,_⟩ | ⟨j,e,q1,q2,q3⟩
    . rw [q1 e0 h0m] at h0s; cases h0s
    . obtain ⟨i',y,hy,Dk,MD⟩:=mem e (fj q1)
      obtain ⟨b,hb⟩:=all y (fj hy)
      have IE:=rA (P:=P) hd hk hx MD hb
      rw [q2] at IE
      simp only [gK] at IE
      subst IE
      have MC:=tU hb
      subst MC
      have hii:=KW hs h1 hy
      subst hii
      rw [sY] at Dk; cases Dk
      exact ⟨j,q1,q3⟩
   obtain ⟨j,hj,hjf⟩:=pick 0
   refine .inr ⟨i,j,e0,by rw [cV],h1,sY,hj,XR,fun s=>?_⟩
   have shift:∀ (es:List MapEntry) (a b:Nat) j v,Instr.findNow d u es a=some (some (a+j,v))->Instr.findNow d u es b=some (some (b+j,v)):=fun es=>by
    induction es with
    | nil=>intro a b j v h; simp [Instr.findNow] at h
    | cons e es ih =>
      intro a b j v h
      simp only [Instr.findNow] at h ⊢
      cases wQ:Instr.sameNow d u e.key with
      | none=>rw [wQ] at h; cases h
      | some t =>
        rw [wQ] at h
        cases t
        . dsimp only at h ⊢
          have hle:∀ (es:List MapEntry) (a:Nat) r v,Instr.findNow d u es a=some (some (r,v))->a <= r:=fun es=>by
           induction es with
           | nil=>intro a r v h; simp [Instr.findNow] at h
           | cons e es ih =>
             intro a r v h
             simp only [Instr.findNow] at h
             cases wQ:Instr.sameNow d u e.key with
             | none=>rw [wQ] at h; cases h
             | some t =>
               rw [wQ] at h
               cases t
               . have:=ih _ _ _ h; omega
               . simp at h; omega
          have h1:=hle _ _ _ _ h
          have:=ih (a+1) (b+1) (j - 1) v (by rw [h]; congr 3; omega)
          rw [this]; congr 3; omega
        . simp at h ⊢; obtain ⟨h1,h2⟩:=h; exact ⟨by omega,h2⟩
   exact shift es 0 s j _ hjf
theorem Ry {α:Type} {l m:List α} (h:l.Perm m) {i j:Nat} {e:α} (hi:l[i]?=some e) (hj:m[j]?=some e) (e':α):(l.set i e').Perm (m.set j e'):=by
 obtain ⟨h1,h2⟩:=c8.1 hi
 obtain ⟨h3,h4⟩:=c8.1 hj
 have el:l=l.take i++e::l.drop (i+1):=by
  conv=>lhs; rw [<- List.take_append_drop i l,gl h1,h2]
 have em:m=m.take j++e::m.drop (j+1):=by
  conv=>lhs; rw [<- List.take_append_drop j m,gl h3,h4]
 rw [List.set_eq_take_append_cons_drop,if_pos h1,List.set_eq_take_append_cons_drop,if_pos h3]
 have hp:(l.take i++e::l.drop (i+1)).Perm (m.take j++e::m.drop (j+1)):=by rw [<- el,<- em]; exact h
 have h5:=(List.perm_middle.symm.trans hp).trans List.perm_middle
 have h6:=List.Perm.cons_inv h5
 exact (List.perm_middle.trans (h6.cons e')).trans List.perm_middle.symm
theorem run_checkKey {P:Program} {k:TypeId} {d:TypeDesc} {em:Bool} (hd:P.underlying k=some d) (hk:(∃ q,d=.int q)\/d=.string) (n:Nat) (v:Value):(Instr.checkKey em (n+1) k v).run P w=.ok () w:=by
 rcases hk with ⟨q,rfl⟩ | rfl <;> simp [Instr.checkKey,run_underlying hd]
theorem az.set:∀ {l:List AV} {vs:List Value} {x:AV} {u:Value} (i:Nat),az g l vs->ay g x u->az g (l.set i x) (vs.set i u)
 | [],_,_,_,_,h,_=>by simp only [az] at h; subst h; simp [az]
 | y::ys,_,x,u,0,h,hx=>by
   simp only [az] at h
   obtain ⟨v,vs,rfl,h1,h2⟩:=h
   simp only [List.set_cons_zero,az]
   exact ⟨u,vs,rfl,hx,h2⟩
 | y::ys,_,x,u,i+1,h,hx=>by
   simp only [az] at h
   obtain ⟨v,vs,rfl,h1,h2⟩:=h
   simp only [List.set_cons_succ,az]
   exact ⟨v,_,rfl,h1,az.set i h2 hx⟩
theorem F8 {k v:AV} {e:MapEntry} (hk:ay g k e.key) (hv:ay g v e.val):∀ (ks vs:List AV) (l:List MapEntry),az g ks (l.map (·.key))->az g vs (l.map (·.val)) ->
 ∃ l':List MapEntry,l'.Perm (e::l)/\az g (fR k v ks vs).1 (l'.map (·.key))/\az g (fR k v ks vs).2 (l'.map (·.val))
 | [],vs,l,h1,h2=>by
   simp only [az,List.map_eq_nil_iff] at h1
   subst h1
   exact ⟨[e],List.Perm.refl _,by simp only [fR,dV,lq,az]; exact ⟨_,_,rfl,hk,rfl⟩,by simp only [fR,dV,lq,az]; exact ⟨_,_,rfl,hv,rfl⟩⟩
 | y::ks,vs,[],h1,h2=>by simp [az] at h1
 | y::ks,[],f::l,h1,h2=>by simp [az] at h2
 | y::ks,x::vs,f::l,h1,h2=>by
   simp only [fR]
   by_cases aO:iz k y=true
   . rw [if_pos aO]
     exact ⟨e::f::l,List.Perm.refl _,by rw [dV]; simp only [az] at h1 ⊢; exact ⟨_,_,rfl,hk,h1⟩,by rw [dV]; simp only [az] at h2 ⊢; exact ⟨_,_,rfl,hv,h2⟩⟩
   . rw [if_neg aO]
     simp only [az,dV,List.cons.injEq] at h1 h2
     obtain ⟨_,_,⟨rfl,rfl⟩,hy,h1⟩:=h1
     obtain ⟨_,_,⟨rfl,rfl⟩,hx,h2⟩:=h2
     obtain ⟨l',h3,h4,h5⟩:=F8 hk hv ks vs l h1 h2
     exact ⟨f::l',((h3.cons f).trans (List.Perm.swap e f l)),by simp only [dV,az]; exact ⟨_,_,rfl,hy,h4⟩,by simp only [dV,az]; exact ⟨_,_,rfl,hx,h5⟩⟩
theorem vH {k v:AV}:∀ (ks vs:List AV) (z:AV),z ∈ (fR k v ks vs).1->z=k\/z ∈ ks
 | [],vs,z,h=>by simp [fR] at h; exact .inl h
 | y::ks,vs,z,h=>by
   simp only [fR] at h
   split at h
   . simpa using h
   . split at h
     . simp at h; exact .inl h
     . rename_i x xs
       simp only [cD] at h ⊢
       rcases h with h | h
       . exact .inr (.inl h)
       . rcases vH ks xs z h with h | h
         . exact .inl h
         . exact .inr (.inr h)
theorem zu {k v:AV}:∀ (ks vs:List AV),oc ks->(∀ y ∈ ks,iz k y=true\/iz y k=true)->oc (fR k v ks vs).1
 | [],vs,h1,h2=>by simp [fR,oc]
 | y::ks,vs,h1,h2=>by
   unfold oc at h1 ⊢
   rw [List.pairwise_cons] at h1
   simp only [fR]
   split
   . rename_i aO
     rw [List.pairwise_cons,List.pairwise_cons]
     refine ⟨fun z hz=>?_,h1⟩
     rcases cD.1 hz with rfl | hz
     . exact aO
     . exact HL aO (h1.1 z hz)
   . rename_i aO
     split
     . simp
     . rename_i x xs
       rw [List.pairwise_cons]
       refine ⟨fun z hz=>?_,zu ks xs h1.2 fun z hz=>h2 z (by simp [hz])⟩
       rcases vH ks xs z hz with rfl | hz
       . rcases h2 y (by simp) with h | h
         . exact absurd h aO
         . exact h
       . exact h1.1 z hz
theorem jJ.push {es:Array MapEntry} {clock:Nat} (h:jJ es clock) (k v:Value):jJ (es.push ⟨k,v,clock⟩) (clock+1):=by
 obtain ⟨h1,h2⟩:=h
 refine ⟨?_,fun e he=>?_⟩
 . simp only [Array.toList_push,List.map_append,dV,lq]
   rw [List.nodup_append]
   refine ⟨h1,by simp,fun a ha b hb=>?_⟩
   simp at hb
   subst hb
   obtain ⟨e,he,rfl⟩:=List.mem_map.1 ha
   exact Nat.ne_of_lt (h2 e he)
 . simp only [Array.toList_push,fB,jg] at he
   rcases he with he | rfl
   . have:=h2 e he; omega
   . simp
theorem y7 {es:Array MapEntry} {j:Nat} {e:MapEntry} (hj:es.toList[j]?=some e) (f:MapEntry->MapEntry):(es.modify j f).toList=es.toList.set j (f e):=by
 apply List.ext_getElem?
 intro i
 simp only [Array.toList_modify,List.getElem?_modify,List.getElem?_set]
 by_cases fJ:j=i
 . subst fJ
   have aO:=(c8.1 hj).1
   simp only [if_true,hj,if_pos aO]; rfl
 . simp only [if_neg fJ]
   cases es.toList[i]? <;> rfl
theorem jJ.modify {es uy:Array MapEntry} {clock:Nat} (h:jJ es clock) {j:Nat} {e e':MapEntry} (hj:es.toList[j]?=some e) (hb:e'.born=e.born) (he:uy.toList=es.toList.set j e'):jJ uy clock:=by
 have hm:uy.toList.map (·.born)=es.toList.map (·.born):=by
  rw [he,List.map_set,hb]
  apply List.ext_getElem?
  intro i
  rw [List.getElem?_set]
  split
  . rename_i fJ
    subst fJ
    rw [ln,hj]
    have aO:=(c8.1 hj).1
    simp at aO ⊢; exact aO
  . rfl
 refine ⟨by rw [hm]; exact h.1,fun x hx=>?_⟩
 have:x.born ∈ uy.toList.map (·.born):=List.mem_map_of_mem hx
 rw [hm] at this
 obtain ⟨y,hy,hy2⟩:=List.mem_map.1 this
 rw [<- hy2]; exact h.2 y hy
theorem th (h:a8 g U w) {t:TypeId} {m k x:AV} {vm vk vx:Value} (hm:ay g m vm) (hk:ay g k vk) (hx:ay g x vx) :
 aD.Fits C g U (pG C.P t m k x U) ((do Instr.mapUpdate t vm vk vx; pure Next.skip:Sem Next).run C.P w):=by
 unfold pG
 split
 . rename_i fk e id ht
   split
   . rename_i ks vs FN
     obtain ⟨kt,hu,X8⟩:=xT ht
     obtain ⟨d,hd,FH⟩:∃ d,C.P.underlying kt=some d/\((fk=.i/\∃ q,d=.int q)\/(fk=.s/\d=.string)):=by
      rcases X8 with ⟨rfl,q,hq⟩ | ⟨rfl,hq⟩
      . exact ⟨_,hq,.inl ⟨rfl,q,rfl⟩⟩
      . exact ⟨_,hq,.inr ⟨rfl,rfl⟩⟩
     have QY:(∃ q,d=.int q)\/d=.string:=FH.imp (·.2) (·.2)
     simp only [ay] at hm
     obtain ⟨r,hr,rfl⟩:=hm
     obtain ⟨r',es,clock,q1,q2,q3,qb,⟨l,q4,q5,q6,q7⟩,q8⟩:=h.mp id _ FN
     rw [hr] at q1; cases q1
     have qP:(getObj r).run C.P w=.ok (.map es clock) w:=by simp [getObj,Sem.run,q3]
     have Mg:=run_checkKey (P:=C.P) (w:=w) (em:=false) hd QY 9999 vk
     have Cp:∀ o,(setObj r o).run C.P w=.ok () { w with heap:=w.heap.setIfInBounds r o }:=fun o=>by simp [setObj,Sem.run,q3]
     split
     . rename_i hf Iw
       rcases zV (P:=C.P) hd FH hk q4 q5 q6 hf with ⟨_,ha,hn⟩ | ⟨i,_,_,he,_⟩
       . simp only [Instr.mapUpdate,bN,run_underlying hu,ca,qP,Mg,Instr.findKey,run_underlying hd,hn,ck,Cp]
         obtain ⟨l',p1,p2,p3⟩:=F8 (e:=⟨vk,vx,clock⟩) hk hx ks vs l q6 q7
         refine ⟨undef,_,g,.inr ⟨rfl,rfl⟩,Gh.Le.refl g,h.ND FN (kv':=fR k x ks vs) hr q3 ⟨l',?_,?_,p2,p3⟩ (qb.push vk vx),by simp only [ay]; exact ⟨[],rfl,by simp [az]⟩⟩
         . rw [Array.toList_push]
           exact (p1.trans (q4.cons _)).trans (List.perm_append_singleton _ _).symm
         . exact zu ks vs q5 fun y hy=>Rb (ha y hy)
       . cases he
     . rename_i i hf Iw
       rcases zV (P:=C.P) hd FH hk q4 q5 q6 hf with ⟨he,_⟩ | ⟨i',j,e,he,X5,FL,Mh,SL,hn⟩
       . cases he
       . cases he
         have zl:=hn 0
         rw [cV] at zl
         have aO:j < es.size:=by
          have:=(c8.1 Mh).1
          simpa using this
         have acZ:es[j]?=some e:=by rw [<- jS]; exact Mh
         have abq:Instr.sameBits 10000 e.key vk=true:=by
          rcases FH with ⟨rfl,_⟩ | ⟨rfl,_⟩ <;> cases k <;> simp only [oG,bJ] at Iw
          . simp only [ay] at hk SL; rw [hk,SL]; simp [Instr.sameBits]
          . simp only [ay] at hk SL; rw [hk,SL]; simp [Instr.sameBits,beq_toListBytes]
         have IE:(Instr.keyThatStays e.key vk).run C.P w=.ok vk w:=by simp [Instr.keyThatStays,abq]
         have ac8:((es[j]?).map (·.key)).getD vk=e.key:=by rw [acZ]; rfl
         simp only [Instr.mapUpdate,bN,run_underlying hu,ca,qP,Mg,Instr.findKey,run_underlying hd,zl,ck,Cp,ac8,IE]
         have Yc:=y7 Mh (fun e=>{ e with key:=vk,val:=vx })
         refine ⟨undef,_,g,.inr ⟨rfl,rfl⟩,Gh.Le.refl g,h.ND FN (kv':=(ks,vs.set i x)) hr q3 ⟨l.set i { e with key:=vk,val:=vx },?_,q5,?_,?_⟩ (qb.modify (e':={ e with key:=vk,val:=vx }) Mh rfl Yc),by simp only [ay]; exact ⟨[],rfl,by simp [az]⟩⟩
         . rw [Yc]; exact Ry q4 FL Mh _
         . rw [List.map_set]
           have:=q6.set i hk
           have e1:ks.set i k=ks:=by
            apply List.ext_getElem?
            intro a
            rw [List.getElem?_set]
            split
            . rename_i ha; subst ha
              split
              . exact X5.symm
              . rename_i hn; exact absurd (c8.1 X5).1 hn
            . rfl
           rw [e1] at this; exact this
         . rw [List.map_set]; exact q7.set i hx
     . trivial
   . trivial
 . trivial
theorem Bm {fk:FK} {k z:AV} {ok:Bool}:∀ (ks vs:List AV) (s:Nat),ks.length=vs.length->lI fk k z ok ks vs=(match kj fk k ks s with
 | none=>.bad
 | some none=>.val (if ok then .aF [z,.bool false] else z)
 | some (some i)=>.val (if ok then .aF [vs.getD (i - s) z,.bool true] else vs.getD (i - s) z))
 | [],[],s,_=>by simp [lI,kj]
 | [],_::_,s,h=>by simp at h
 | _::_,[],s,h=>by simp at h
 | y::ks,v::vs,s,h=>by
   simp only [lI,kj]
   cases hb:gk fk k y with
   | none=>rfl
   | some b =>
     cases b
     . simp only [bJ,if_false]
       rw [Bm ks vs (s+1) (by simpa using h)]
       cases hf:kj fk k ks (s+1) with
       | none=>rfl
       | some r =>
         cases r with
         | none=>rfl
         | some i =>
           rcases vu hf with ⟨h1,_⟩ | ⟨i',h1,_⟩
           . cases h1
           . cases h1
             have e1:s+1+i' - (s+1)=i':=by omega
             have e2:s+1+i' - s=i'+1:=by omega
             simp only [e1,e2,List.getD_cons_succ]
     . simp only [if_true,Nat.sub_self,List.getD_cons_zero]
theorem Gk (h:a8 g U w) {t:TypeId} {m k:AV} {vm vk:Value} {ok:Bool} (hm:ay g m vm) (hk:ay g k vk) :
 aD.Fits C g U (uW C.P t m k ok U) ((do let r <- Instr.lookup t vm vk ok; pure (Next.value r):Sem Next).run C.P w):=by
 unfold uW
 split
 . rename_i fk e ks vs ht he
   split
   . rename_i z hz Iw
     obtain ⟨kt,hu,X8⟩:=xT ht
     obtain ⟨d,hd,FH⟩:∃ d,C.P.underlying kt=some d/\((fk=.i/\∃ q,d=.int q)\/(fk=.s/\d=.string)):=by
      rcases X8 with ⟨rfl,q,hq⟩ | ⟨rfl,hq⟩
      . exact ⟨_,hq,.inl ⟨rfl,q,rfl⟩⟩
      . exact ⟨_,hq,.inr ⟨rfl,rfl⟩⟩
     have QY:(∃ q,d=.int q)\/d=.string:=FH.imp (·.2) (·.2)
     obtain ⟨i,vz,hi,sj,MF⟩:∃ i vz,C.P.info? e=some i/\i.zero=some vz/\C6 vz=z:=by
      unfold zeroV at hz
      cases hi:C.P.info? e with
      | none=>simp [hi] at hz
      | some i =>
        cases mZ:i.zero with
        | none=>simp [hi,mZ] at hz
        | some vz=>simp [hi,mZ] at hz; exact ⟨i,vz,rfl,mZ,hz⟩
     have Ti:ay g z vz:=by rw [<- MF]; exact Cd vz
     obtain ⟨es,xF,l,hp,ado,h1,h2⟩:∃ es:Array MapEntry,((vm=.map none/\es=#[])\/∃ r clock,vm=.map (some r)/\w.heap[r]?=some (Obj.map es clock))/\vi g ks vs es:=by
      cases m <;> simp only [jb,reduceCtorEq,gK,ik] at he
      . obtain ⟨rfl,rfl⟩:=he
        simp only [ay] at hm; subst hm
        exact ⟨#[],.inl ⟨rfl,rfl⟩,[],List.Perm.refl _,by simp [oc],by simp [az],by simp [az]⟩
      . simp only [ay] at hm
        obtain ⟨r,hr,rfl⟩:=hm
        obtain ⟨r',es,clock,q1,q2,q3,_,q4,_⟩:=h.mp _ _ he
        rw [hr] at q1; cases q1
        exact ⟨es,.inr ⟨r,clock,rfl,q3⟩,q4⟩
      . obtain ⟨rfl,rfl⟩:=he
        simp only [ay] at hm
        obtain ⟨r,es,clock,l,rfl,hr,q0,q1,q2,q3⟩:=hm
        exact ⟨es,.inr ⟨r,clock,rfl,(h.bI r es clock hr).1⟩,l,q0,q1,q2,q3⟩
     have hlen:ks.length=vs.length:=by
      have a:=h1.length
      have b:=h2.length
      simp at a b; omega
     rw [Bm ks vs 0 hlen]
     cases hf:kj fk k ks 0 with
     | none=>trivial
     | some r =>
       have Mg:=run_checkKey (P:=C.P) (w:=w) (em:=es.isEmpty) hd QY 9999 vk
       have key:=zV (P:=C.P) hd FH hk hp ado h1 hf
       have fin:∀ q:Option (Nat × Value),Instr.findNow d vk es.toList 0=some q->(Instr.lookup t vm vk ok).run C.P w=(match q with
        | some (_,v)=>.ok (if ok then .tuple #[v,.bool true] else v) w
        | none=>.ok (if ok then .tuple #[vz,.bool false] else vz) w):=fun q hq=>by
        rcases xF with ⟨rfl,rfl⟩ | ⟨r,clock,rfl,hh⟩
        . simp only [Instr.lookup,bN,run_underlying hu,ca,ck,Mg,Instr.findKey,run_underlying hd,hq]
          cases q with
          | none=>simp only [ck,ca,bN,fT hi sj]
          | some p=>rfl
        . have qP:(getObj r).run C.P w=.ok (Obj.map es clock) w:=by simp [getObj,Sem.run,hh]
          simp only [Instr.lookup,bN,run_underlying hu,ca,ck,qP,Mg,Instr.findKey,run_underlying hd,hq]
          cases q with
          | none=>simp only [ck,ca,bN,fT hi sj]
          | some p=>rfl
       rcases key with ⟨rfl,_,hn⟩ | ⟨i,j,e,rfl,_,FL,_,_,hn⟩
       . simp only [bN,fin _ (hn 0),ca,ck]
         refine aT h ?_
         cases ok
         . exact Ti
         . simp only [if_true,ay]
           exact ⟨[vz,.bool false],rfl,by simp only [az]; exact ⟨_,_,rfl,Ti,_,_,rfl,by simp only [ay],rfl⟩⟩
       . simp only [bN,fin _ (hn 0),ca,ck,Nat.sub_zero]
         have hv:ay g (vs.getD i z) e.val:=by
          have aO:i < vs.length:=by
           have a:=(c8.1 FL).1
           have b:=h2.length
           simp at b; omega
          obtain ⟨v,hv,Mz⟩:=h2.get (i:=i) (x:=vs[i]) (nj aO)
          rw [ln,FL] at hv
          simp at hv
          subst hv
          have:vs.getD i z=vs[i]:=by simp [qf,aO]
          rw [this]; exact Mz
         refine aT h ?_
         cases ok
         . exact hv
         . simp only [if_true,ay]
           exact ⟨[e.val,.bool true],rfl,by simp only [az]; exact ⟨_,_,rfl,hv,_,_,rfl,by simp only [ay],rfl⟩⟩
   . trivial
 . trivial
theorem Kz (h:a8 g U w):aD.Fits C g U .tj (.ok (.value (.map (some w.heap.size))) (w.alloc (.map #[] 0))):=by
 obtain ⟨b,g',h1,h2,h3,h4⟩:=h.sr (.map #[] 0) 0 0 (.mp [] []) fun g' hle hi hm=>⟨#[],0,heap_alloc_new w _,⟨by simp,by simp⟩,⟨[],List.Perm.refl _,by simp [oc],by simp [az],by simp [az]⟩,hm⟩
 exact ⟨_,_,g',b,rfl,h1,h2,h4,by simp only [NV.at,ay]; exact ⟨_,Gh.ou.2 ⟨_,h3,rfl⟩,rfl⟩⟩
end
end Go.Rip
namespace Go.Rip
open Go.RowKit
def bp (c a b:AV):aD :=
 match c with
 | .bool t=>.val (if t=true then a else b)
 | _=>.bad
def yG (P:Program) (s f:Nat):Option (Nat × Bool × Nat) :=
 match P.underlying s with
 | some (.struct fields)=>match fields[f]? with
   | some x=>match mF P x.type with
     | some (b,n)=>some (x.offset,b,n)
     | none=>none
   | none=>none
 | _=>none
def xv (P:Program) (s:TypeId) (x:AV) (f:Nat):aD :=
 match yG P s f,x with
 | some (o,true,n),.agg l=>.cond (o+n <= l.length) (.val (.agg ((l.drop o).take n)))
 | some (o,false,_),.agg l=>gJ (l.drop o)
 | _,_=>.bad
def gr (P:Program) (f:AV) (args:List AV):aD :=
 match f with
 | .func (.func g) first cap=>if dU P g=true then .enter g (first++args++cap) else .bad
 | .pX o=>.yield o args
 | _=>.bad
def GG (P:Program) (t:TypeId) (m:AV):aD :=
 match pF P t,m with
 | some _,.eZ ks vs=>.new .it none (.iter (ks.zip vs) none)
 | _,_=>.bad
def rE:List (AV × AV)->List ((AV × AV) × List (AV × AV))
 | []=>[]
 | x::xs=>(x,xs)::(rE xs).map fun p=>(p.1,x::p.2)
def qu (i:AV) (U:St):aD :=
 match i with
 | .it o=>match U.iter o with
   | some ([],_)=>.val (.aF [.bool false])
   | some (x::xs,_)=>.ki o ((rE (x::xs)).map fun p=>(.aF [.bool true,p.1.1,p.1.2],.iter p.2 (some p.1)))
   | none=>.bad
 | _=>.bad
def kY (i:AV) (U:St):aD :=
 match i with
 | .it o=>match U.iter o with
   | some (_,some kv)=>.val (.aF [kv.1,kv.2])
   | _=>.bad
 | _=>.bad
def yC (P:Program) (t:TypeId):Option AV :=
 match P.underlying t with
 | some (.interface _)=>none
 | some _=>zeroV P t
 | none=>none
def uh (P:Program) (x:AV) (t:TypeId) (ok:Bool):aD :=
 match yC P t,x with
 | some z,.iface u v=>if u=t then .val (if ok then .aF [v,.bool true] else v) else if ok then .val (.aF [z,.bool false]) else .bad
 | some z,.cJ=>if ok then .val (.aF [z,.bool false]) else .bad
 | _,_=>.bad
def rC (P:Program) (t:TypeId) (mu:Bool) (l c:AV):aD :=
 match eJ P t,l,c with
 | some (e,sz),.int _ l,.int _ c=>match oL P e with
   | some z=>.cond (0 <= l/\l=c/\c <= 65536) (if mu then .nF l.toNat sz e none (bF l.toNat z) else .l8 l.toNat (bF l.toNat z) none ⟨l.toNat,e,sz⟩)
   | none=>.bad
 | _,_,_=>.bad
def xl (P:Program) (t:TypeId) (x:AV) (U:St):aD :=
 match eJ P t,x with
 | some (e,sz),.ms b off n ir _=>match U.box b,oL P e with
   | some l,some z=>.cond (ir=sz/\off+n * sz <= l.length) (.gx (.aF []) b (.box (aB l off (bF n z))))
   | _,_=>.bad
 | _,_=>.bad
def AR (P:Program) (t u:TypeId):Option (TypeId × Nat × List AV) :=
 match P.underlying u with
 | some (.int _)=>match eJ P t with
   | some (e,sz)=>match oL P e with
     | some z=>some (e,sz,z)
     | none=>none
   | none=>none
 | _=>none
def Ep (q:TypeId × Nat × List AV) (mu:Bool) (s y:AV):aD :=
 match s,y with
 | .aw,.int _ n=>.cond (0 < n/\n <= 65536) (if mu then .nF n.toNat q.2.1 q.1 none (bF n.toNat q.2.2) else .l8 n.toNat (bF n.toNat q.2.2) none ⟨n.toNat,q.1,q.2.1⟩)
 | _,_=>.bad
def Fc (st:Option (TypeId × Nat)) (x:AV):aD:=match st,x with
 | some _,.aw=>.val (.int .i64 0)
 | _,_=>.bad
def yB (P:Program) (t u:TypeId) (mu:Bool) (s y:AV) (U:St):aD :=
 match AR P t u with
 | some q=>Ep q mu s y
 | none=>B8 P t u mu s y U
def yD (C:cq) (mu:Bool) (c:Call) (ρ:Env) (U:St):aD :=
 match c.callee,c.argTypes.toList,c.args.toList with
 | .value f,_,args=>gr C.P (ρ.ev C f) (args.map (ρ.ev C))
 | .builtin .len,[t],[x]=>Gg C.P t (ρ.ev C x) U
 | .builtin .append,[t,u],[s,y]=>yB C.P t u mu (ρ.ev C s) (ρ.ev C y) U
 | .builtin .cap,[t],[x]=>Fc (eJ C.P t) (ρ.ev C x)
 | .builtin .min,_,[x,y]=>xV (ρ.ev C x) (ρ.ev C y)
 | .builtin .max,_,[x,y]=>z7 (ρ.ev C x) (ρ.ev C y)
 | .builtin .clear,[t],[x]=>xl C.P t (ρ.ev C x) U
 | _,_,_=>.bad
def iK (C:cq) (mu:Bool) (o:Op) (ρ:Env) (U:St):aD :=
 match o with
 | .move x | .assign x=>.val (ρ.ev C x)
 | .pick c a b=>bp (ρ.ev C c) (ρ.ev C a) (ρ.ev C b)
 | .alloc t=>EV C.P t
 | .box _ x=>dT (ρ.ev C x)
 | .build t parts=>E9 C.P t (kZ C ρ parts)
 | .buildSlice t n parts=>qo C.P t n mu (kZ C ρ parts)
 | .insert t m k v | .mapUpdate t m k v=>pG C.P t (ρ.ev C m) (ρ.ev C k) (ρ.ev C v) U
 | .load t a=>td C.P t (ρ.ev C a) U
 | .store t a v=>GY C.P t (ρ.ev C a) (ρ.ev C v) U
 | .nilCheck x=>aY (ρ.ev C x)
 | .binOp op t x y _=>EZ C.P op t (isLit x || isLit y) (ρ.ev C x) (ρ.ev C y)
 | .unOp op _ x=>jC op (ρ.ev C x)
 | .convert s d x=>En C.P s d (ρ.ev C x)
 | .makeInterface t x=>vM C.P t (ρ.ev C x)
 | .makeFunc fn first cap=>.val (.func fn (first.toList.map (ρ.ev C)) (cap.toList.map (ρ.ev C)))
 | .makeMap _ none=>.tj
 | .slice t x lo hi none=>GS C.P t (ρ.ev C x) (lo.map (ρ.ev C)) (hi.map (ρ.ev C))
 | .fieldAddr s x f=>vr C.P s (ρ.ev C x) f
 | .field s x f=>xv C.P s (ρ.ev C x) f
 | .indexAddr t x i=>vG C.P t (ρ.ev C x) (ρ.ev C i)
 | .index t x i=>Be C.P t (ρ.ev C x) (ρ.ev C i)
 | .lookup t m k ok=>uW C.P t (ρ.ev C m) (ρ.ev C k) ok U
 | .extract t i=>aR (ρ.ev C t) i
 | .panic x=>sA (ρ.ev C x)
 | .range t m=>GG C.P t (ρ.ev C m)
 | .typeAssert x _ t ok=>uh C.P (ρ.ev C x) t ok
 | .makeSlice t l c=>rC C.P t mu (ρ.ev C l) (ρ.ev C c)
 | .next i false=>qu (ρ.ev C i) U
 | .entry i=>kY (ρ.ev C i) U
 | .call c=>yD C mu c ρ U
 | _=>.bad
section
variable {C:cq} {g:Gh} {U:St} {w:World}
theorem Cg (h:a8 g U w) {s f:Nat} {x:AV} {v:Value} (hx:ay g x v):aD.Fits C g U (xv C.P s x f) ((do let r <- Instr.field s v f; pure (Next.value r):Sem Next).run C.P w):=by
 unfold xv
 have key:∀ {o b n},yG C.P s f=some (o,b,n)->∃ fs y i d,C.P.underlying s=some (.struct fs)/\fs[f]?=some y/\y.offset=o/\C.P.info? y.type=some i/\C.P.underlying y.type=some d/\B7 d=b/\i.size=n:=fun {o b n} hf=>by
  unfold yG at hf
  split at hf
  . rename_i fs hu
    split at hf
    . rename_i y hy
      split at hf
      . rename_i b' n' hv
        simp only [gK,ik] at hf
        obtain ⟨rfl,rfl,rfl⟩:=hf
        obtain ⟨i,d,h1,h2,h3,h4⟩:=ny hv
        exact ⟨fs,y,i,d,hu,hy,rfl,h1,h2,h3,h4⟩
      . cases hf
    . cases hf
  . cases hf
 split
 . rename_i o n l hf
   obtain ⟨fs,y,i,d,hu,hy,rfl,hi,hd,ha,rfl⟩:=key hf
   intro hle
   simp only [ay] at hx
   obtain ⟨vs,rfl,h1,hr⟩:=hx
   simp only [Instr.field,bN,run_underlying hu,ca,hy,asAgg,ck,part,ky hd,ha,if_true,eD,eg hi]
   refine aT h ?_
   simp only [ay]
   refine ⟨(vs.drop y.offset).take i.size,?_,fun u hu=>h1 u (List.mem_of_mem_drop (List.mem_of_mem_take hu)),(hr.drop _).take _⟩
   congr 1
   apply Array.ext'
   simp [List.extract_eq_take_drop]
 . rename_i o n l hf
   obtain ⟨fs,y,i,d,hu,hy,rfl,hi,hd,ha,rfl⟩:=key hf
   simp only [ay] at hx
   obtain ⟨vs,rfl,h1,hr⟩:=hx
   cases hl:l.drop y.offset with
   | nil=>trivial
   | cons z zs =>
     have hz:l[y.offset]?=some z:=by
      have:=congrArg (fun l=>l[0]?) hl
      simpa using this
     obtain ⟨u,nN,Yx⟩:=hr.get hz
     have e:vs.toArray[y.offset]?=some u:=by simpa using nN
     simp only [Instr.field,bN,run_underlying hu,ca,hy,asAgg,ck,part,ky hd,ha,bJ,if_false,eD,e]
     exact aT h Yx
 . trivial
theorem yF (hG:gD C g) {ρ:Env} {a:Act} (hr:ga g ρ a.tmps):∀ l:List Operand,az g (l.map (ρ.ev C)) (l.map a.eval)
 | []=>by simp [az]
 | x::l=>by simp only [dV,az]; exact ⟨_,_,rfl,rX hG hr x,yF hG hr l⟩
theorem QK (h:a8 g U w) {f:AV} {vf:Value} {args:List AV} {vs:List Value} (hf:ay g f vf) (ha:az g args vs) :
 aD.Fits C g U (gr C.P f args) ((do let d <- Deferred.ofValue vf vs.toArray; invoke d.target d.args:Sem Next).run C.P w):=by
 unfold gr
 split
 . rename_i q first cap
   split
   . rename_i he
     simp only [ay] at hf
     obtain ⟨fs,cs,rfl,h1,h2⟩:=hf
     unfold dU at he
     split at he
     . rename_i fn hfn
       simp only [bL,Bool.not_eq_true'] at he
       have hb:fn.body.isNone=false:=by cases hb:fn.body <;> simp_all
       simp only [Deferred.ofValue,invoke,callFunc,bN,ck,ca,run_program,hfn,he.2,hb,bJ,if_false,eD]
       exact ⟨fs++vs++cs,w,by simp,h,(h1.append ha).append h2⟩
     . cases he
   . trivial
 . rename_i o
   simp only [ay] at hf
   obtain ⟨x,hx,rfl⟩:=hf
   simp only [Deferred.ofValue,invoke,bN,ck,ca]
   exact ⟨vs,x,w,w,hx,by simp,rfl,h,ha⟩
 . trivial
theorem Av (h:a8 g U w) {x:AV} {v:Value} {xt t:TypeId} {ok:Bool} (hx:ay g x v) :
 aD.Fits C g U (uh C.P x t ok) ((do let r <- Instr.typeAssert v xt t ok; pure (Next.value r):Sem Next).run C.P w):=by
 have key:∀ {z:AV},yC C.P t=some z->∃ d i vz,C.P.underlying t=some d/\(∀ ms,d ≠ .interface ms)/\C.P.info? t=some i/\i.zero=some vz/\ay g z vz:=fun {z} hz=>by
  unfold yC at hz
  split at hz
  . cases hz
  . rename_i d hn hd
    unfold zeroV at hz
    cases hi:C.P.info? t with
    | none=>simp [hi] at hz
    | some i =>
      cases mZ:i.zero with
      | none=>simp [hi,mZ] at hz
      | some vz=>simp [hi,mZ] at hz; exact ⟨d,i,vz,hd,fun ms e=>hn ms e,rfl,mZ,by rw [<- hz]; exact Cd vz⟩
  . cases hz
 unfold uh
 split
 . rename_i z u y hz
   obtain ⟨d,i,vz,hd,hn,hi,mZ,MF⟩:=key hz
   simp only [ay] at hx
   obtain ⟨q,rfl,hq⟩:=hx
   have gi:(Instr.typeAssert (.iface u q) xt t ok).run C.P w=(if u=t then .ok (if ok then .tuple #[q,.bool true] else q) w else if ok then .ok (.tuple #[vz,.bool false]) w else (Instr.typeAssert (.iface u q) xt t ok).run C.P w):=by
    by_cases hu:u=t
    . rw [if_pos hu]
      cases d <;> first
       | exact absurd rfl (hn _)
       | (cases ok <;> simp [Instr.typeAssert,run_underlying hd,hu])
    . rw [if_neg hu]
      cases ok
      . rfl
      . cases d <;> first
         | exact absurd rfl (hn _)
         | simp [Instr.typeAssert,run_underlying hd,hu,fT hi mZ]
   split
   . rename_i hu
     rw [bN,gi,if_pos hu]
     refine aT h ?_
     cases ok
     . exact hq
     . simp only [if_true,ay,az]; exact ⟨_,rfl,_,_,rfl,hq,_,_,rfl,rfl,rfl⟩
   . rename_i hu
     split
     . rename_i cr
       rw [bN,gi,if_neg hu,if_pos cr]
       exact aT h (by simp only [ay,az]; exact ⟨_,rfl,_,_,rfl,MF,_,_,rfl,rfl,rfl⟩)
     . trivial
 . rename_i z hz
   obtain ⟨d,i,vz,hd,hn,hi,mZ,MF⟩:=key hz
   simp only [ay] at hx
   subst hx
   split
   . rename_i cr
     subst cr
     have gi:(Instr.typeAssert .nilIface xt t true).run C.P w=.ok (.tuple #[vz,.bool false]) w:=by
      cases d <;> first
       | exact absurd rfl (hn _)
       | simp [Instr.typeAssert,run_underlying hd,fT hi mZ]
     rw [bN,gi]
     exact aT h (by simp only [ay,az]; exact ⟨_,rfl,_,_,rfl,MF,_,_,rfl,rfl,rfl⟩)
   . trivial
 . trivial
theorem Bp (h:a8 g U w) {t:TypeId} {mu:Bool} {l c:AV} {vl vc:Value} (hl:ay g l vl) (hc:ay g c vc) :
 aD.Fits C g U (rC C.P t mu l c) ((do let x <- Instr.makeSlice t vl vc; pure (Next.value x):Sem Next).run C.P w):=by
 unfold rC
 split
 . rename_i e sz kl l kc c hs
   split
   . rename_i z hz
     rintro ⟨h0,rfl,h1⟩
     obtain ⟨i,zv,hu,hi,mZ,uO,dQ,pw,hb,_⟩:=gL hs
     obtain ⟨i',zv',jA,Ds,hm⟩:=lV hz
     rw [hi] at jA; cases jA
     rw [mZ] at Ds; cases Ds
     obtain ⟨h2,h3⟩:=ef (g:=g) hm
     simp only [ay] at hl hc
     subst hl hc
     have XL:(i.bytes:Int) * l <= 281474976710656:=by
      have e1:(i.bytes:Int) * l <= 32768 * l:=Int.mul_le_mul_of_nonneg_right (by omega) h0
      omega
     have gi:=run_make (P:=C.P) w t e i zv hu hi mZ kl kc l l h0 (Int.le_refl _) XL (by omega)
     have xJ:=rN (g:=g) h2 l.toNat
     have Yb:madeCells zv.cells (l.toNat * i.size)=(Array.range (l.toNat * zv.cells.size)).map (zv.cells[· % zv.cells.size]!):=by rw [dQ,<- uO]; rfl
     have zZ:∀ u ∈ (madeCells zv.cells (l.toNat * i.size)).toList,u.oneCell'=true:=fun u hu=>by
      rw [Yb] at hu
      simp only [Array.toList_map,List.mem_map] at hu
      obtain ⟨j,_,rfl⟩:=hu
      have aO:j % zv.cells.size < zv.cells.size:=Nat.mod_lt _ (by omega)
      rw [getElem!_pos zv.cells _ aO]
      exact h3 _ (by simp)
     rw [<- Yb] at xJ
     have hlen:(madeCells zv.cells (l.toNat * i.size)).toList.length=l.toNat * sz:=by rw [Yb]; simp [uO]
     have F3:z.length=sz:=by have:=h2.length; simp at this; omega
     simp only [bN,gi,ca,ck]
     cases mu
     . have:=og (C:=C) (del:=none) (e:=e) (sz:=sz) (n:=l.toNat) (c:=l.toNat) h (vs:=(madeCells zv.cells (l.toNat * i.size)).toList) (rest:=[]) xJ zZ (by simp) (by rw [kf,F3]) (by simpa using hlen) (dk _) (by unfold maxLen; omega)
       simpa using this
     . have:=pt (C:=C) (del:=none) (e:=e) (sz:=sz) (n:=l.toNat) (c:=l.toNat) h (vs:=(madeCells zv.cells (l.toNat * i.size)).toList) (rest:=[]) xJ zZ (by simp) (by simpa using hlen) (dk _) (by unfold maxLen; omega)
       simpa using this
   . trivial
 . trivial
theorem Hr (h:a8 g U w) {t ty:TypeId} {x:AV} {v:Value} (hx:ay g x v) :
 aD.Fits C g U (xl C.P t x U) ((do let r <- Builtin.clear_ #[t] ty #[v]; pure (Next.value r):Sem Next).run C.P w):=by
 unfold xl
 split
 . rename_i e sz b off n ir e' hs
   split
   . rename_i l z hb hz
     rintro ⟨rfl,h1⟩
     obtain ⟨i,zv,hu,hi,mZ,uO,dQ,pw,_⟩:=gL hs
     obtain ⟨i',zv',jA,Ds,hm⟩:=lV hz
     rw [hi] at jA; cases jA
     rw [mZ] at Ds; cases Ds
     obtain ⟨h2,h3⟩:=ef (g:=g) hm
     simp only [ay] at hx
     obtain ⟨y,c,hy,rfl,_⟩:=hx
     have F3:z.length=ir:=by have:=h2.length; simp at this; omega
     have xJ:=rN (g:=g) h2 n
     have Yw:Builtin.zeroCells zv.cells n=(Array.range (n * zv.cells.size)).map (zv.cells[· % zv.cells.size]!):=rfl
     obtain ⟨w',fg,dY⟩:=u5 (C:=C) (off:=off) h hb hy xJ (kT h3 n (by omega)) (by rw [kf,F3]; exact h1)
     rw [<- Yw] at fg
     by_cases hn:n=0
     . subst hn
       have e0:U.bW b (aB l off (bF 0 z))=U.bW b l:=by simp [aB,bF]
       simp only [Builtin.clear_,bN,ck,ca]
       simp [run_underlying hu]
       refine ⟨_,w,g,.inl rfl,Gh.Le.refl g,?_,by simp only [ay]; exact ⟨[],rfl,by simp [az]⟩⟩
       show a8 g (U.bW b (aB l off (bF 0 z))) w
       rw [e0]; exact h.abE hb
     . have hz2:=fT (P:=C.P) hi mZ w
       have XN:(Builtin.clear_ #[t] ty #[.slice (some ⟨y.aE,off,none⟩) n c]).run C.P w=.ok (.tuple #[]) w':=by
        simp [Builtin.clear_,run_underlying hu,hz2,fg,hn]
       simp only [bN,XN,ca,ck]
       exact ⟨_,w',g,.inl rfl,Gh.Le.refl g,dY,by simp only [ay]; exact ⟨[],rfl,by simp [az]⟩⟩
   . trivial
 . trivial
theorem zN:∀ {ks vs:List AV},ks.length=vs.length->(ks.zip vs).map (·.1)=ks
 | [],[],_=>rfl
 | [],_::_,h=>by simp at h
 | _::_,[],h=>by simp at h
 | k::ks,v::vs,h=>by simp only [List.zip_cons_cons,dV]; rw [zN (by simpa using h)]
theorem zO:∀ {ks vs:List AV},ks.length=vs.length->(ks.zip vs).map (·.2)=vs
 | [],[],_=>rfl
 | [],_::_,h=>by simp at h
 | _::_,[],h=>by simp at h
 | k::ks,v::vs,h=>by simp only [List.zip_cons_cons,dV]; rw [zO (by simpa using h)]
theorem HT (h:a8 g U w) {t:TypeId} {m:AV} {v:Value} (hm:ay g m v):aD.Fits C g U (GG C.P t m) ((do let x <- Instr.range t v; pure (Next.value x):Sem Next).run C.P w):=by
 unfold GG
 split
 . rename_i p ks vs ht
   obtain ⟨fk,e⟩:=p
   obtain ⟨kt,hu,_⟩:=xT ht
   simp only [ay] at hm
   obtain ⟨r,es,clock,l,rfl,hr,hp,hs,h1,h2⟩:=hm
   obtain ⟨q1,q2⟩:=h.bI r es clock hr
   have hlen:ks.length=vs.length:=by
    have a:=h1.length
    have b:=h2.length
    simp at a b; omega
   have qP:(getObj r).run C.P w=.ok (.map es clock) w:=by simp [getObj,Sem.run,q1]
   obtain ⟨b,g',f1,f2,f3,f4⟩:=h.sr (.mapIter (some r) clock #[] clock) 0 0 (.iter (ks.zip vs) none) fun g' hle hi Ms =>
    ⟨r,es,clock,#[],heap_alloc_new w _,hle.bI _ _ hr,⟨l,by
      have:(es.toList.filter fun e=>!(#[]:Array Nat).contains e.born)=es.toList:=by simp
      rw [this]; exact hp,by rw [zN hlen]; exact h1.mono hle,by rw [zO hlen]; exact h2.mono hle⟩,trivial⟩
   simp only [Instr.range,bN,run_underlying hu,ca,qP,ck,run_newObj]
   exact ⟨_,_,g',b,rfl,f1,f2,f4,by simp only [NV.at,ay]; exact ⟨_,f3,rfl⟩⟩
 . trivial
theorem DP:∀ {l:List (AV × AV)} {i:Nat} {x:AV × AV},l[i]?=some x->(x,l.eraseIdx i) ∈ rE l
 | [],i,x,h=>by simp at h
 | y::l,0,x,h=>by simp at h; subst h; simp [rE]
 | y::l,i+1,x,h=>by
   simp only [List.getElem?_cons_succ] at h
   simp only [rE,List.eraseIdx_cons_succ,cD,List.mem_map]
   exact .inr ⟨_,DP h,rfl⟩
theorem az.eraseIdx:∀ {l:List AV} {vs:List Value} (i:Nat),az g l vs->az g (l.eraseIdx i) (vs.eraseIdx i)
 | [],_,_,h=>by simp only [az] at h; subst h; simp [az]
 | y::ys,_,0,h=>by
   simp only [az] at h
   obtain ⟨v,vs,rfl,h1,h2⟩:=h
   simpa using h2
 | y::ys,_,i+1,h=>by
   simp only [az] at h
   obtain ⟨v,vs,rfl,h1,h2⟩:=h
   simp only [List.eraseIdx_cons_succ,az]
   exact ⟨v,_,rfl,h1,az.eraseIdx i h2⟩
theorem lZ {α β:Type} (f:α->β):∀ (l:List α) (i:Nat),(l.eraseIdx i).map f=(l.map f).eraseIdx i
 | [],i=>by simp
 | x::l,0=>by simp
 | x::l,i+1=>by simp [lZ f l i]
theorem Eg {α:Type} {l m:List α} (h:l.Perm m) {i j:Nat} {e:α} (hi:l[i]?=some e) (hj:m[j]?=some e):(l.eraseIdx i).Perm (m.eraseIdx j):=by
 obtain ⟨h1,h2⟩:=c8.1 hi
 obtain ⟨h3,h4⟩:=c8.1 hj
 have el:l=l.take i++e::l.drop (i+1):=by
  conv=>lhs; rw [<- List.take_append_drop i l,gl h1,h2]
 have em:m=m.take j++e::m.drop (j+1):=by
  conv=>lhs; rw [<- List.take_append_drop j m,gl h3,h4]
 have hp:(l.take i++e::l.drop (i+1)).Perm (m.take j++e::m.drop (j+1)):=by rw [<- el,<- em]; exact h
 have h5:=(List.perm_middle.symm.trans hp).trans List.perm_middle
 rw [List.eraseIdx_eq_take_drop_succ,List.eraseIdx_eq_take_drop_succ]
 exact List.Perm.cons_inv h5
theorem HC {es:List MapEntry} (hn:(es.map (·.born)).Nodup) {seen:Array Nat} {e:MapEntry} {j:Nat} (hj:(es.filter fun x=>!seen.contains x.born)[j]?=some e) :
 (es.filter fun x=>!(seen.push e.born).contains x.born)=(es.filter fun x=>!seen.contains x.born).eraseIdx j:=by
 have e1:(es.filter fun x=>!(seen.push e.born).contains x.born)=(es.filter fun x=>!seen.contains x.born).filter fun x=>x.born != e.born:=by
  rw [List.filter_filter]
  apply List.filter_congr
  intro x _
  simp only [Array.contains_push,Bool.not_or]
  rw [Bool.and_comm]
  congr 1
 rw [e1]
 have wO:((es.filter fun x=>!seen.contains x.born).map (·.born)).Nodup:=List.Nodup.sublist (List.Sublist.map _ List.filter_sublist) hn
 generalize (es.filter fun x=>!seen.contains x.born)=l at hj wO
 clear e1 hn es
 induction l generalizing j with
 | nil=>simp at hj
 | cons y l ih =>
   simp only [dV,List.nodup_cons] at wO
   cases j with
   | zero =>
     simp at hj; subst hj
     simp only [List.filter_cons,bne_self_eq_false,bJ,if_false,List.eraseIdx_zero,List.tail_cons]
     rw [List.filter_eq_self]
     intro x hx
     simp only [bne_iff_ne,ne_eq]
     intro he
     exact wO.1 (he ▸ List.mem_map_of_mem hx)
   | succ j =>
     simp only [List.getElem?_cons_succ] at hj
     have bT:y.born ≠ e.born:=fun he=>wO.1 (he ▸ List.mem_map_of_mem (fj hj))
     simp only [List.filter_cons,bne_iff_ne,ne_eq,bT,not_false_eq_true,if_true,List.eraseIdx_cons_succ]
     rw [ih hj wO.2]
theorem KA (h:a8 g U w) {i:AV} {v:Value} {ty:TypeId} (hi:ay g i v):aD.Fits C g U (qu i U) ((do let x <- Instr.next v false ty; pure (Next.value x):Sem Next).run C.P w):=by
 unfold qu
 split
 . rename_i o
   simp only [ay] at hi
   obtain ⟨p,hp,rfl⟩:=hi
   split
   . rename_i cur hit
     obtain ⟨p',k1,k2,m,es,clock,seen,k3,k4,⟨l,k5,k6,k7⟩,k8⟩:=h.live o _ (St.vK.1 hit)
     rw [hp] at k1; cases k1
     obtain ⟨q1,q2⟩:=h.bI m es clock k4
     simp only [lq,az,List.map_eq_nil_iff] at k6
     subst k6
     have Cn:=k5.symm.eq_nil
     have Mj:(getObj p.aE).run C.P w=.ok (.mapIter (some m) clock seen clock) w:=by simp [getObj,Sem.run,k3]
     have Ml:(getObj m).run C.P w=.ok (.map es clock) w:=by simp [getObj,Sem.run,q1]
     have JT:(!seen.isEmpty && !es.isEmpty && es.all (fun e=>decide (e.born >= clock)))=false:=by
      cases he:es.isEmpty
      . have:es.all (fun e=>decide (e.born >= clock))=false:=by
         rw [Array.all_eq_false]
         have h0:0 < es.size:=by
          rcases Nat.eq_zero_or_pos es.size with h0 | h0
          . simp [Array.isEmpty,h0] at he
          . exact h0
         refine ⟨0,h0,?_⟩
         have:=q2.2 es[0] (by simp)
         simp; omega
        simp [this]
      . simp
     have abj:(es.filter fun e=>!seen.contains e.born)=#[]:=by
      apply Array.ext'
      simpa using Cn
     simp only [Instr.next,bN,Mj,ca,Ml,JT,eD,bJ,if_false,ck,abj]
     have e2:(#[]:Array MapEntry).filter (fun e=>decide (e.born < clock))=#[]:=by simp
     have e3:(#[]:Array MapEntry).filter (fun e=>decide (e.born >= clock))=#[]:=by simp
     simp [choose,Sem.run,Question.forced,Result.andThen]
     exact aT h (by simp only [ay,az]; exact ⟨[.bool false],rfl,_,_,rfl,rfl,rfl⟩)
   . rename_i x xs cur hit
     obtain ⟨p',k1,k2,m,es,clock,seen,k3,k4,⟨l,k5,k6,k7⟩,k8⟩:=h.live o _ (St.vK.1 hit)
     rw [hp] at k1; cases k1
     obtain ⟨q1,q2⟩:=h.bI m es clock k4
     have Mj:(getObj p.aE).run C.P w=.ok (.mapIter (some m) clock seen clock) w:=by simp [getObj,Sem.run,k3]
     have JT:(!seen.isEmpty && !es.isEmpty && es.all (fun e=>decide (e.born >= clock)))=false:=by
      cases he:es.isEmpty
      . have:es.all (fun e=>decide (e.born >= clock))=false:=by
         rw [Array.all_eq_false]
         have h0:0 < es.size:=by
          rcases Nat.eq_zero_or_pos es.size with h0 | h0
          . simp [Array.isEmpty,h0] at he
          . exact h0
         refine ⟨0,h0,?_⟩
         have:=q2.2 es[0] (by simp)
         simp; omega
        simp [this]
      . simp
     generalize hL:(es.filter fun e=>!seen.contains e.born)=L
     have AW:(es.toList.filter fun e=>!seen.contains e.born)=L.toList:=by rw [<- hL]; simp
     rw [AW] at k5
     have lG:∀ e ∈ L.toList,e ∈ es.toList:=fun e he=>by rw [<- AW] at he; exact (List.mem_filter.1 he).1
     have hlen:l.length=xs.length+1:=by have:=k6.length; simpa using this
     have Fw:L.size=xs.length+1:=by rw [<- hlen,k5.length_eq]; simp
     have hold:L.filter (fun e=>decide (e.born < clock))=L:=by
      apply Array.ext'
      rw [Array.toList_filter,List.filter_eq_self]
      intro e he
      have:=q2.2 e (lG e he)
      simpa using this
     have oN:L.filter (fun e=>decide (e.born >= clock))=#[]:=by
      apply Array.ext'
      rw [Array.toList_filter]
      apply List.filter_eq_nil_iff.2
      intro e he
      have:=q2.2 e (lG e he)
      simp; omega
     have hem:L.isEmpty=false:=by simp [Array.isEmpty,Fw]
     have key:∀ (w1:World) (c:Nat),w1.heap=w.heap->w1.os=w.os->w1.tape=w.tape->w1.output=w.output->c < L.size ->
      ∀ e,L[c]?=some e->∃ u w' g' v x',(setObj p.aE (.mapIter (some m) clock (seen.push e.born) clock)).run C.P w1=.ok () w'/\u=Value.tuple #[.bool true,e.key,e.val] /\
       (v,x') ∈ (rE (x::xs)).map (fun p=>(AV.aF [.bool true,p.1.1,p.1.2],Live.iter p.2 (some p.1)))/\Gh.Le g g'/\a8 g' (U.set o x') w'/\ay g' v u:=fun w1 c e1 e2 e3 e4 hc e he=>by
      have kO:L.toList[c]?=some e:=by rw [jS]; exact he
      obtain ⟨a,ha⟩:=List.getElem?_of_mem (k5.mem_iff.2 (fj kO))
      have De:a < (x::xs).length:=by
       have:=(c8.1 ha).1
       rw [hlen] at this; simpa using this
      have IG:(x::xs)[a]?=some ((x::xs)[a]):=nj De
      generalize (x::xs)[a]=kv at IG
      obtain ⟨vk,cF,pv⟩:=k6.get (i:=a) (x:=kv.1) (by rw [ln,IG]; rfl)
      obtain ⟨vv,Yr,fD⟩:=k7.get (i:=a) (x:=kv.2) (by rw [ln,IG]; rfl)
      rw [ln,ha] at cF Yr
      simp at cF Yr
      subst cF Yr
      have Cp:(setObj p.aE (.mapIter (some m) clock (seen.push e.born) clock)).run C.P w1=.ok () { w1 with heap:=w1.heap.setIfInBounds p.aE (.mapIter (some m) clock (seen.push e.born) clock) }:=by
       simp [setObj,Sem.run,e1,k3]
      have aO:=(jR.1 k3).1
      refine ⟨_,_,g,_,_,Cp,rfl,List.mem_map.2 ⟨_,DP IG,rfl⟩,Gh.Le.refl g,?_,?_⟩
      . refine h.rewrite (St.vK.1 hit) hp ⟨e2,e3,e4,by simp [e1]⟩ (fun k hk _=>by simp only [e1]; exact Array.getElem?_setIfInBounds_ne (Ne.symm hk)) (fun o=>?_) ?_ ?_
        . cases ei:g.bS p.aE o with
          | none=>rfl
          | some u=>have:=(h.bS _ _ _ ei).1; simp [World.cell?,k3] at this
        . cases ei:g.bI p.aE with
          | none=>rfl
          | some u=>have:=(h.bI _ _ _ ei).1; rw [k3] at this; cases this
        . refine ⟨m,es,clock,seen.push e.born,by simp [e1,aO],k4,⟨l.eraseIdx a,?_,?_,?_⟩,e,?_,by simp,pv,fD⟩
          . have zi:(es.toList.filter fun e=>!seen.contains e.born)[c]?=some e:=by rw [AW]; exact kO
            rw [HC q2.1 zi,AW]
            exact Eg k5 ha kO
          . rw [lZ,lZ]; exact k6.eraseIdx a
          . rw [lZ,lZ]; exact k7.eraseIdx a
          . exact lG e (fj kO)
      . simp only [ay,az]
        exact ⟨_,rfl,_,_,rfl,rfl,_,_,rfl,pv,_,_,rfl,fD,rfl⟩
     have FO:∀ (n:Nat) (w1:World),(choose (.mapNext L.size)).run C.P w=.ok n w1->w1.heap=w.heap->w1.os=w.os->w1.tape=w.tape->w1.output=w.output->n < L.size ->
      aD.Fits C g U (.ki o ((rE (x::xs)).map fun p=>(.aF [.bool true,p.1.1,p.1.2],.iter p.2 (some p.1)))) ((do let x <- Instr.next (.pointer (some ⟨p.aE,0,none⟩)) false ty; pure (Next.value x):Sem Next).run C.P w):=fun n w1 hch e1 e2 e3 e4 hn=>by
      have Ml:(getObj m).run C.P w=.ok (.map es clock) w:=by simp [getObj,Sem.run,q1]
      have XF:L[n]?=some L[n]:=by simp [hn]
      generalize L[n]=e at XF
      obtain ⟨u,w',g',v,x',r1,r2,r3,r4,r5,r6⟩:=key w1 n e1 e2 e3 e4 hn e XF
      have abd:((#[]:Array (Option MapEntry))++(L++#[]).map some).size=L.size:=by simp
      have hcn:((#[]:Array (Option MapEntry))++(L++#[]).map some)[n]?=some (some e):=by simp [XF]
      simp only [Instr.next,bN,Mj,ca,Ml,JT,eD,bJ,if_false,ck,hL,hold,oN,hem,abd,hch,hcn,r1]
      exact ⟨_,w',g',v,x',rfl,r3,r4,r5,by rw [<- r2]; exact r6⟩
     by_cases hf:L.size <= 1
     . refine FO 0 w ?_ rfl rfl rfl rfl (by omega)
       simp [choose,Sem.run,Question.forced,hf]
     . refine FO (w.tape w.drawn (.mapNext L.size) % L.size) w.drew ?_ rfl rfl rfl rfl (Nat.mod_lt _ (by omega))
       have hfq:Question.forced (.mapNext L.size)=false:=by simp only [Question.forced,decide_eq_false_iff_not]; exact hf
       simp only [choose,Sem.run,hfq,bJ,if_false,Question.cut]
       rfl
   . trivial
 . trivial
theorem Hx (h:a8 g U w) {i:AV} {v:Value} (hi:ay g i v):aD.Fits C g U (kY i U) ((do let x <- Instr.entry v; pure (Next.value x):Sem Next).run C.P w):=by
 unfold kY
 split
 . rename_i o
   simp only [ay] at hi
   obtain ⟨p,hp,rfl⟩:=hi
   split
   . rename_i rest kv hit
     obtain ⟨p',k1,k2,m,es,clock,seen,k3,k4,_,e,k5,k6,k7,k8⟩:=h.live o _ (St.vK.1 hit)
     rw [hp] at k1; cases k1
     obtain ⟨q1,q2⟩:=h.bI m es clock k4
     have Mj:(getObj p.aE).run C.P w=.ok (.mapIter (some m) clock seen clock) w:=by simp [getObj,Sem.run,k3]
     have Ml:(getObj m).run C.P w=.ok (.map es clock) w:=by simp [getObj,Sem.run,q1]
     have A0:es.find? (fun x=>x.born == e.born)=some e:=by
      rw [<- Array.find?_toList]
      have hn:=q2.1
      generalize es.toList=l at k5 hn
      induction l with
      | nil=>simp at k5
      | cons y l ih =>
        simp only [dV,List.nodup_cons] at hn
        rw [List.find?_cons]
        rcases cD.1 k5 with rfl | hm
        . simp
        . have:(y.born == e.born)=false:=by
           simp only [beq_eq_false_iff_ne,ne_eq]
           intro he
           exact hn.1 (he ▸ List.mem_map_of_mem hm)
          rw [this]
          exact ih hm hn.2
     simp only [Instr.entry,bN,Mj,ca,k6,Ml,bne_self_eq_false,bJ,if_false,eD,ck,A0]
     exact aT h (by simp only [ay,az]; exact ⟨_,rfl,_,_,rfl,k7,_,_,rfl,k8,rfl⟩)
   . trivial
 . trivial
theorem zb (hG:gD C g) {ρ:Env} {a:Act} (hr:ga g ρ a.tmps) (parts:Array (Nat × Operand)) :
 (parts.map fun (i,x)=>(i,a.eval x)).size=(kZ C ρ parts).length/\∀ (i:Nat) (p:Nat × AV) (q:Nat × Value),(kZ C ρ parts)[i]?=some p->(parts.map fun (i,x)=>(i,a.eval x))[i]?=some q->p.1=q.1/\ay g p.2 q.2:=by
 refine ⟨by simp [kZ],fun i p q h1 h2=>?_⟩
 simp only [kZ,ln,jS,nX] at h1
 obtain ⟨y,hy,rfl⟩:=h1
 simp only [Array.getElem?_map,hy,Option.map_some,gK] at h2
 subst h2
 exact ⟨rfl,rX hG hr _⟩
theorem I9 (hG:gD C g) {ρ:Env} {a:Act} (hr:ga g ρ a.tmps) (x:Option Operand):match x.map (ρ.ev C),x.map a.eval with | none,none=>True | some x,some u=>ay g x u | _,_=>False:=by
 cases x with
 | none=>trivial
 | some x=>exact rX hG hr x
theorem BF {P:Program} {w:World} {t u ty e:TypeId} {i:TypeInfo} {z:Value} {k k':IntKind} (ht:P.underlying t=some (.slice e)) (hu:P.underlying u=some (.int k')) (hi:P.info? e=some i) (hz:i.zero=some z) (AX:i.bytes <= 32768) (hp:0 < i.size)
 {n:Nat} (h0:0 < n) (hn:n <= 65536) :
 (Builtin.append_ #[t,u] ty #[.slice none 0 0,.int k (n:Int)]).run P w =
   .ok (.slice (some ⟨w.heap.size,0,none⟩) n (grownCap w n 0 e))
    (w.drew.alloc (.cells (Builtin.zeroCells z.cells n++Builtin.zeroCells z.cells (grownCap w n 0 e - n)) e)):=by
 have abt:IntKind.i64.wrap (n:Int)=n:=wB ⟨by omega,by omega⟩
 have QS:¬ (9223372036854775807 < (n:Int)):=by omega
 have fY:n * i.bytes <= 140737488355328:=Nat.le_trans (Nat.mul_le_mul hn AX) (by omega)
 have Ma:=growslice_fits (old:=0) (need:=n) (bytes:=i.bytes) (by omega) fY
 have QR:¬ (281474976710656 < Builtin.nextslicecap n 0 * i.bytes):=by omega
 have jn:¬ ((281474976710656:Int) < (n:Int) * (i.bytes:Int)):=by
  have:(n:Int) * (i.bytes:Int)=((n * i.bytes:Nat):Int):=by simp
  omega
 have hns:¬ (n=0\/i.size=0):=by omega
 have adb:¬ ((n:Int) < 0):=by omega
 simp [Builtin.append_,run_underlying ht,run_underlying hu,sizeOf,typeInfo,zeroValue,hi,hz,abt,QS,QR,jn,hns,adb,Question.forced,newRow,grownCap,asInt,asIntOf,Builtin.firstCells]
 have e1:n ≠ 0:=by omega
 have e2:n * i.size ≠ 0:=Nat.mul_ne_zero e1 (by omega)
 rw [if_neg e1,if_neg e2]
theorem JO {P:Program} {t u:TypeId} {q:TypeId × Nat × List AV} (h:AR P t u=some q):∃ k,P.underlying u=some (.int k)/\eJ P t=some (q.1,q.2.1)/\oL P q.1=some q.2.2:=by
 unfold AR at h
 split at h
 . rename_i k hu
   split at h
   . rename_i e sz hs
     split at h
     . rename_i z hz
       cases h
       exact ⟨k,hu,hs,hz⟩
     . cases h
   . cases h
 . cases h
theorem JN (h:a8 g U w) {t u ty:TypeId} {mu:Bool} {q:TypeId × Nat × List AV} (hq:AR C.P t u=some q) {s y:AV} {v v2:Value} (hs:ay g s v) (hy:ay g y v2) :
 aD.Fits C g U (Ep q mu s y) ((do let r <- Builtin.append_ #[t,u] ty #[v,v2]; pure (Next.value r):Sem Next).run C.P w):=by
 obtain ⟨k',hu,lf,hz⟩:=JO hq
 unfold Ep
 split
 . rename_i k n
   rintro ⟨h0,h1⟩
   obtain ⟨i,zv,ht,hi,mZ,uO,dQ,pw,AX,hz1⟩:=gL lf
   obtain ⟨i',zv',jA,Ds,hm⟩:=lV hz
   rw [hi] at jA; cases jA
   rw [mZ] at Ds; cases Ds
   obtain ⟨h2,h3⟩:=ef (g:=g) hm
   simp only [ay] at hs hy
   subst hs hy
   obtain ⟨m,rfl⟩:∃ m:Nat,n=m:=⟨n.toNat,by omega⟩
   simp only [gb]
   have jo:=grownCap_ge w m 0 q.1
   have hle:=grownCap_le_maxLen w m 0 q.1 (by unfold maxLen; omega)
   rw [bN,BF (k:=k) ht hu hi mZ AX (by omega) (by omega) (by omega)]
   have dY:=h.grow (jM w)
   have xJ:=rN (g:=g) h2 m
   have F3:q.2.2.length=i.size:=by have:=h2.length; simp at this; omega
   have zZ:=kT h3 m (by omega)
   have S6:=kT h3 (grownCap w m 0 q.1 - m) (by omega)
   have hlen:(Builtin.zeroCells zv.cells m).toList.length+(Builtin.zeroCells zv.cells (grownCap w m 0 q.1 - m)).toList.length=grownCap w m 0 q.1 * q.2.1:=by
    rw [qT,qT,size_zeroCells,size_zeroCells,uO,<- Nat.add_mul,<- dQ]
    congr 1; omega
   have ew:Builtin.zeroCells zv.cells m++Builtin.zeroCells zv.cells (grownCap w m 0 q.1 - m)=((Builtin.zeroCells zv.cells m).toList++(Builtin.zeroCells zv.cells (grownCap w m 0 q.1 - m)).toList).toArray:=by simp
   rw [ew]
   simp only [ca,ck]
   cases mu
   . exact og dY xJ zZ S6 (by rw [kf,F3,dQ]) hlen jo hle
   . exact pt dY xJ zZ S6 hlen jo hle
 . trivial
theorem Ly (h:a8 g U w) {t ty:TypeId} {x:AV} {v:Value} (hx:ay g x v) :
 aD.Fits C g U (Fc (eJ C.P t) x) ((do let r <- Builtin.cap_ #[t] ty #[v]; pure (Next.value r):Sem Next).run C.P w):=by
 unfold Fc
 split
 . rename_i q hq
   obtain ⟨e,sz⟩:=q
   obtain ⟨i,z,ht,_⟩:=gL hq
   simp only [ay] at hx
   subst hx
   have:(Builtin.cap_ #[t] ty #[.slice none 0 0]).run C.P w=.ok (.int .i64 0) w:=by simp [Builtin.cap_,run_underlying ht]; rfl
   rw [bN,this]
   exact aT h (by simp only [ay])
 . trivial
theorem EY (h:a8 g U w) {t u ty:TypeId} {mu:Bool} {s y:AV} {v v2:Value} (hs:ay g s v) (hy:ay g y v2) :
 aD.Fits C g U (yB C.P t u mu s y U) ((do let r <- Builtin.append_ #[t,u] ty #[v,v2]; pure (Next.value r):Sem Next).run C.P w):=by
 unfold yB
 split
 . rename_i q hq
   exact JN h hq hs hy
 . exact EX h hs hy
theorem Jt (h:a8 g U w) (hG:gD C g) {ρ:Env} {a:Act} (hr:ga g ρ a.tmps) (mu:Bool) (c:Call) (ty:TypeId) :
 aD.Fits C g U (yD C mu c ρ U) ((do let d <- resolve a.eval c ty; invoke d.target d.args:Sem Next).run C.P w):=by
 obtain ⟨callee,⟨args⟩,⟨argTypes⟩⟩:=c
 have e:=fun x=>rX hG hr x
 have fin:aD.Fits C g U (match callee,argTypes,args with
  | .value f,_,args=>gr C.P (ρ.ev C f) (args.map (ρ.ev C))
  | .builtin .len,[t],[x]=>Gg C.P t (ρ.ev C x) U
  | .builtin .append,[t,u],[s,y]=>yB C.P t u mu (ρ.ev C s) (ρ.ev C y) U
  | .builtin .cap,[t],[x]=>Fc (eJ C.P t) (ρ.ev C x)
  | .builtin .min,_,[x,y]=>xV (ρ.ev C x) (ρ.ev C y)
  | .builtin .max,_,[x,y]=>z7 (ρ.ev C x) (ρ.ev C y)
  | .builtin .clear,[t],[x]=>xl C.P t (ρ.ev C x) U
  | _,_,_=>.bad) ((do let d <- resolve a.eval ⟨callee,⟨args⟩,⟨argTypes⟩⟩ ty; invoke d.target d.args:Sem Next).run C.P w):=by
  split
  . rename_i f
    have:=QK (C:=C) h (e f) (yF hG hr args)
    have e2:(args.map a.eval).toArray=(⟨args⟩:Array Operand).map a.eval:=by simp
    rw [e2] at this
    exact this
  . rename_i t x
    have:=MU (C:=C) (ty:=ty) h (t:=t) (e x)
    simpa only [resolve,invoke,builtin,bN,ck,ca,List.map_toArray,dV,lq] using this
  . rename_i t u s y
    have:=EY (C:=C) (ty:=ty) (mu:=mu) h (t:=t) (u:=u) (e s) (e y)
    simpa only [resolve,invoke,builtin,bN,ck,ca,List.map_toArray,dV,lq] using this
  . rename_i t x
    have:=Ly (C:=C) (ty:=ty) h (t:=t) (e x)
    simpa only [resolve,invoke,builtin,bN,ck,ca,List.map_toArray,dV,lq] using this
  . rename_i x y
    have:=M0 (C:=C) (ty:=ty) (ts:=⟨argTypes⟩) h (e x) (e y)
    simpa only [resolve,invoke,builtin,bN,ck,ca,List.map_toArray,dV,lq] using this
  . rename_i x y
    have:=MZ (C:=C) (ty:=ty) (ts:=⟨argTypes⟩) h (e x) (e y)
    simpa only [resolve,invoke,builtin,bN,ck,ca,List.map_toArray,dV,lq] using this
  . rename_i t x
    have:=Hr (C:=C) (ty:=ty) h (t:=t) (e x)
    simpa only [resolve,invoke,builtin,bN,ck,ca,List.map_toArray,dV,lq] using this
  . trivial
 exact fin
theorem Ru (h:a8 g U w) (hG:gD C g) {ρ:Env} {a:Act} (hr:ga g ρ a.tmps) (mu:Bool) (o:Oper):aD.Fits C g U (iK C mu o.op ρ U) ((execOp a.eval o).run C.P w):=by
 have e:=fun x=>rX hG hr x
 obtain ⟨dst,op,type,pos,after,guard⟩:=o
 unfold iK
 dsimp only
 split
 . exact aT h (e _)
 . exact aT h (e _)
 . rename_i c x y
   unfold bp
   split
   . rename_i t ht
     have hc:=e c
     rw [ht] at hc
     simp only [ay] at hc
     simp only [execOp,hc,asBool,bN,ck,ca]
     refine aT h ?_
     cases t
     . exact e _
     . exact e _
   . trivial
 . exact Hk h
 . exact Lt h (e _)
 . obtain ⟨h1,h2⟩:=zb hG hr ‹_›
   exact Ho h h1 h2
 . obtain ⟨h1,h2⟩:=zb hG hr ‹_›
   exact zT h h1 h2
 . exact th h (e _) (e _) (e _)
 . exact th h (e _) (e _) (e _)
 . exact Ks h (e _)
 . exact H2 h (e _) (e _)
 . exact Cy h rfl (e _)
 . exact Lr h _ _ (e _) (e _)
 . exact Sj h (e _)
 . exact Jx h (e _)
 . exact Bo h (e _)
 . rename_i fn first cap
   simp only [execOp,Instr.makeFunc,bN,ck,ca]
   refine aT h ?_
   simp only [ay]
   exact ⟨first.toList.map a.eval,cap.toList.map a.eval,by congr 1 <;> (apply Array.ext'; simp),yF hG hr _,yF hG hr _⟩
 . simp only [execOp,Instr.makeMap,Option.map_none,bN,ck,ca,run_newObj]
   exact Kz h
 . exact H0 h (e _) (I9 hG hr _) (I9 hG hr _)
 . exact AN h (e _)
 . exact Cg h (e _)
 . exact Bf h (e _) (e _)
 . exact HH h (e _) (e _)
 . exact Gk h (e _) (e _)
 . exact Eb h (e _) _
 . exact HR h (e _)
 . exact HT h (e _)
 . exact Av h (e _)
 . exact Bp h (e _) (e _)
 . exact KA h (e _)
 . exact Hx h (e _)
 . exact Jt h hG hr mu _ _
 . trivial
end
end Go.Rip
