/- Lemmas for the proof: no conditions. -/
import Derived.Test.YtnfpmiiopiinbaaGreatDoorRipZz
import Derived.RangeFuncIn
import Derived.Laws.AppendOwn
import Derived.Below
import Derived.Laws.StructEq
import Derived.Lib.ConvBytes
import Derived.RangeFuncLeaves
import Derived.RangeFuncCalls
import Derived.Laws.MakeOwn
set_option linter.unusedVariables false
set_option linter.unusedSimpArgs false
set_option linter.loopingSimpArgs false
namespace Go.Rip
open Go.RowKit
structure Tok where
 n:Nat
 e:TypeId
 size:Nat
 deriving DecidableEq
inductive mg where
 | full
 | own (τ:Nat)
 | jc
inductive AV where
 | bool (b:Bool)
 | int (k:IntKind) (n:Int)
 | str (s:List UInt8)
 | aW
 | aq
 | jO
 | dV
 | dq
 | box (b off:Nat)
 | cQ (l:List AV)
 | vec (n:Nat) (cap:mg) (l:List AV)
 | ms (b off n jA:Nat) (e:TypeId)
 | mp (m:Nat)
 | ga (ks vs:List AV)
 | func (fn:Fn) (first captured:List AV)
 | iface (t:TypeId) (v:AV)
 | agg (l:List AV)
 | aH (l:List AV)
 | rZ (o:Nat)
 | it (o:Nat)
 | any
instance:Inhabited AV:=⟨.any⟩
structure Place where
 aF:Nat
 e:TypeId
 size:Nat
structure fL where
 ρ:Nat->AV
 nt:Nat
 params:Array Tmp
 assign:Code
 body:Code
 state:LoopState
 gh:Option Code
 tag:Nat
inductive Live where
 | box (l:List AV)
 | tok (t:Tok)
 | mp (ks vs:List AV)
 | loop (L:fL)
 | iter (rest:List (AV × AV)) (cur:Option (AV × AV))
 | tG (t:TypeId) (l:List AV)
structure Gh where
 base:Nat
 w0:World
 place:Nat->Option Place
 ct:Nat->Nat->Option Value
 bY:Nat->Option (Array MapEntry × Nat)
 res:Nat->Bool
def Gh.box (g:Gh) (b:Nat):Option Place:=g.place b
def Gh.tok (g:Gh) (b:Nat):Option (Nat × Nat):=(g.place b).map fun p=>(p.aF,p.size)
def Gh.mp (g:Gh) (b:Nat):Option Nat:=(g.place b).map (·.aF)
theorem Gh.lD {g:Gh} {b:Nat} {x:Nat × Nat}:g.tok b=some x ↔ ∃ p,g.place b=some p/\p.aF=x.1/\p.size=x.2:=by
 unfold Gh.tok
 cases g.place b with
 | none=>simp
 | some p=>simp [Prod.ext_iff]
theorem Gh.qe {g:Gh} {b:Nat} {x:Nat}:g.mp b=some x ↔ ∃ p,g.place b=some p/\p.aF=x:=by
 unfold Gh.mp
 cases g.place b with
 | none=>simp
 | some p=>simp
def mh (g:Gh) (aF off:Nat) (vs:List Value):Prop:=∀ i u,vs[i]?=some u->g.ct aF (off+i)=some u
def uV (g:Gh) (cap:mg) (aF off n c:Nat):Prop :=
 match cap with
 | .full=>c=n
 | .own τ=>off=0/\g.tok τ=some (aF,c)
 | .jc=>True
def ke:AV->AV->Bool
 | .int k a,.int k' b=>decide (k=k') && decide (a < b)
 | .str a,.str b=>decide (a < b)
 | _,_=>false
def pY (ks:List AV):Prop:=ks.Pairwise (fun a b=>ke a b=true)
def lE (es:Array MapEntry) (clock:Nat):Prop:=(es.toList.map (·.born)).Nodup/\∀ e ∈ es.toList,e.born < clock
mutual
def ay (g:Gh):AV->Value->Prop
 | .bool b,v=>v=.bool b
 | .int k n,v=>v=.int k n
 | .str s,v=>v=.string ⟨s.toArray⟩
 | .aW,v=>v=.pointer none
 | .aq,v=>v=.slice none 0 0
 | .jO,v=>v=.map none
 | .dV,v=>v=.nilFunc
 | .dq,v=>v=.nilIface
 | .box b off,v=>∃ x,g.box b=some x/\v=.pointer (some ⟨x.aF,off,none⟩)
 | .cQ l,v=>∃ aF off vs,v=.pointer (some ⟨aF,off,none⟩)/\mh g aF off vs/\aD g l vs
 | .vec n cap l,v=>∃ aF off c vs,v=.slice (some ⟨aF,off,none⟩) n c/\n <= c/\c <= maxLen/\uV g cap aF off n c/\mh g aF off vs/\aD g l vs
 | .ms b off n jA e,v=>∃ x c,g.box b=some x/\v=.slice (some ⟨x.aF,off,none⟩) n c/\n <= c/\c <= maxLen/\off+c * jA=x.size/\x.e=e
 | .mp m,v=>∃ r,g.mp m=some r/\v=.map (some r)
 | .ga ks vs,v=>∃ r es clock,∃ l:List MapEntry,v=.map (some r)/\g.bY r=some (es,clock)/\l.Perm es.toList/\pY ks/\aD g ks (l.map (·.key))/\aD g vs (l.map (·.val))
 | .func fn first captured,v=>∃ fs cs,v=.func fn (List.toArray fs) (List.toArray cs)/\aD g first fs/\aD g captured cs
 | .iface t x,v=>∃ u,v=.iface t u/\ay g x u
 | .agg l,v=>∃ vs,v=.agg (List.toArray vs)/\(∀ u ∈ vs,u.oneCell'=true)/\aD g l vs
 | .aH l,v=>∃ vs,v=.tuple (List.toArray vs)/\aD g l vs
 | .rZ o,v=>∃ x,g.place o=some x/\v=.func (.yield x.aF) #[] #[]
 | .it o,v=>∃ x,g.place o=some x/\v=.pointer (some ⟨x.aF,0,none⟩)
 | .any,_=>True
def aD (g:Gh):List AV->List Value->Prop
 | [],vs=>vs=[]
 | x::xs,vs=>∃ u us,vs=u::us/\ay g x u/\aD g xs us
end
structure Gh.Le (g g':Gh):Prop where
 base:g'.base=g.base
 w0:g'.w0=g.w0
 place:∀ b x,g.place b=some x->g'.place b=some x
 ct:∀ b o x,g.ct b o=some x->g'.ct b o=some x
 bY:∀ b x,g.bY b=some x->g'.bY b=some x
 res:∀ b,g.res b=true->g'.res b=true
 zD:∀ b o,b < g.base->g'.ct b o=g.ct b o
 wS:∀ b,b < g.base->g'.bY b=g.bY b
theorem Gh.Le.refl (g:Gh):Gh.Le g g:=⟨rfl,rfl,fun _ _ h=>h,fun _ _ _ h=>h,fun _ _ h=>h,fun _ h=>h,fun _ _ _=>rfl,fun _ _=>rfl⟩
theorem Gh.Le.trans {a b c:Gh} (h:Gh.Le a b) (k:Gh.Le b c):Gh.Le a c :=
 ⟨k.base.trans h.base,k.w0.trans h.w0,fun _ _ x=>k.place _ _ (h.place _ _ x),fun _ _ _ x=>k.ct _ _ _ (h.ct _ _ _ x),fun _ _ x=>k.bY _ _ (h.bY _ _ x),fun _ x=>k.res _ (h.res _ x),
   fun q o hq=>(k.zD q o (by rw [h.base]; exact hq)).trans (h.zD q o hq),fun q hq=>(k.wS q (by rw [h.base]; exact hq)).trans (h.wS q hq)⟩
structure Gh.ud (g g':Gh):Prop where
 place:∀ b x,g.place b=some x->g'.place b=some x
 ct:∀ b o x,g.ct b o=some x->g'.ct b o=some x
 bY:∀ b x,g.bY b=some x->g'.bY b=some x
theorem Gh.ud.tok {g g':Gh} (h:Gh.ud g g') {b:Nat} {x:Nat × Nat} (hb:g.tok b=some x):g'.tok b=some x:=by
 obtain ⟨p,h1,h2,h3⟩:=Gh.lD.1 hb
 exact Gh.lD.2 ⟨p,h.place _ _ h1,h2,h3⟩
theorem Gh.ud.mp {g g':Gh} (h:Gh.ud g g') {b x:Nat} (hb:g.mp b=some x):g'.mp b=some x:=by
 obtain ⟨p,h1,h2⟩:=Gh.qe.1 hb
 exact Gh.qe.2 ⟨p,h.place _ _ h1,h2⟩
theorem Gh.Le.r {g g':Gh} (h:Gh.Le g g'):Gh.ud g g':=⟨h.place,h.ct,h.bY⟩
theorem Gh.Le.box {g g':Gh} (h:Gh.Le g g') (b:Nat) (x:Place) (hb:g.box b=some x):g'.box b=some x:=h.place b x hb
theorem Gh.Le.tok {g g':Gh} (h:Gh.Le g g') (b:Nat) (x:Nat × Nat) (hb:g.tok b=some x):g'.tok b=some x:=h.r.tok hb
theorem Gh.Le.mp {g g':Gh} (h:Gh.Le g g') (b:Nat) (x:Nat) (hb:g.mp b=some x):g'.mp b=some x:=h.r.mp hb
theorem mh.fA {g g':Gh} (h:Gh.ud g g') {aF off:Nat} {vs:List Value} (hi:mh g aF off vs):mh g' aF off vs:=fun i u hu=>h.ct _ _ _ (hi i u hu)
theorem uV.fA {g g':Gh} (h:Gh.ud g g') {cap:mg} {aF off n c:Nat} (hi:uV g cap aF off n c):uV g' cap aF off n c:=by
 cases cap with
 | full=>exact hi
 | own τ=>exact ⟨hi.1,h.tok hi.2⟩
 | jc=>trivial
mutual
theorem ay.fA {g g':Gh} (h:Gh.ud g g'):∀ (x:AV) (v:Value),ay g x v->ay g' x v
 | .bool _,_,hr=>hr
 | .int _ _,_,hr=>hr
 | .str _,_,hr=>hr
 | .aW,_,hr=>hr
 | .aq,_,hr=>hr
 | .jO,_,hr=>hr
 | .dV,_,hr=>hr
 | .dq,_,hr=>hr
 | .box _ _,_,hr=>by
   simp only [ay] at hr ⊢
   obtain ⟨x,hx,hv⟩:=hr
   exact ⟨x,h.place _ _ hx,hv⟩
 | .cQ l,_,hr=>by
   simp only [ay] at hr ⊢
   obtain ⟨aF,off,vs,hv,hi,hl⟩:=hr
   exact ⟨aF,off,vs,hv,hi.fA h,aD.fA h l vs hl⟩
 | .vec n cap l,_,hr=>by
   simp only [ay] at hr ⊢
   obtain ⟨aF,off,c,vs,hv,h1,h2,hc,hi,hl⟩:=hr
   exact ⟨aF,off,c,vs,hv,h1,h2,hc.fA h,hi.fA h,aD.fA h l vs hl⟩
 | .ms _ _ _ _ _,_,hr=>by
   simp only [ay] at hr ⊢
   obtain ⟨x,c,hx,r⟩:=hr
   exact ⟨x,c,h.place _ _ hx,r⟩
 | .mp _,_,hr=>by
   simp only [ay] at hr ⊢
   obtain ⟨x,hx,hv⟩:=hr
   exact ⟨x,h.mp hx,hv⟩
 | .ga ks vs,_,hr=>by
   simp only [ay] at hr ⊢
   obtain ⟨r,es,c,l,hv,he,hp,hs,h1,h2⟩:=hr
   exact ⟨r,es,c,l,hv,h.bY _ _ he,hp,hs,aD.fA h ks _ h1,aD.fA h vs _ h2⟩
 | .func fn first captured,_,hr=>by
   simp only [ay] at hr ⊢
   obtain ⟨fs,cs,hv,h1,h2⟩:=hr
   exact ⟨fs,cs,hv,aD.fA h first _ h1,aD.fA h captured _ h2⟩
 | .iface t x,_,hr=>by
   simp only [ay] at hr ⊢
   obtain ⟨u,hv,h1⟩:=hr
   exact ⟨u,hv,ay.fA h x _ h1⟩
 | .agg l,_,hr=>by
   simp only [ay] at hr ⊢
   obtain ⟨vs,hv,h0,h1⟩:=hr
   exact ⟨vs,hv,h0,aD.fA h l _ h1⟩
 | .aH l,_,hr=>by
   simp only [ay] at hr ⊢
   obtain ⟨vs,hv,h1⟩:=hr
   exact ⟨vs,hv,aD.fA h l _ h1⟩
 | .rZ o,_,hr=>by
   simp only [ay] at hr ⊢
   obtain ⟨x,hx,hv⟩:=hr
   exact ⟨x,h.place _ _ hx,hv⟩
 | .it o,_,hr=>by
   simp only [ay] at hr ⊢
   obtain ⟨x,hx,hv⟩:=hr
   exact ⟨x,h.place _ _ hx,hv⟩
 | .any,_,_=>by simp only [ay]
theorem aD.fA {g g':Gh} (h:Gh.ud g g'):∀ (l:List AV) (vs:List Value),aD g l vs->aD g' l vs
 | [],_,hr=>by simpa only [aD] using hr
 | x::xs,_,hr=>by
   simp only [aD] at hr ⊢
   obtain ⟨u,us,hv,h1,h2⟩:=hr
   exact ⟨u,us,hv,ay.fA h x _ h1,aD.fA h xs _ h2⟩
end
theorem mh.mono {g g':Gh} (h:Gh.Le g g') {aF off:Nat} {vs:List Value} (hi:mh g aF off vs):mh g' aF off vs:=hi.fA h.r
theorem ay.mono {g g':Gh} (h:Gh.Le g g') (x:AV) (v:Value) (hr:ay g x v):ay g' x v:=ay.fA h.r x v hr
theorem aD.mono {g g':Gh} (h:Gh.Le g g') (l:List AV) (vs:List Value) (hr:aD g l vs):aD g' l vs:=aD.fA h.r l vs hr
theorem aD.length {g:Gh}:∀ {l:List AV} {vs:List Value},aD g l vs->vs.length=l.length
 | [],_,h=>by simp only [aD] at h; simp [h]
 | _::xs,_,h=>by
   simp only [aD] at h
   obtain ⟨u,us,rfl,_,h2⟩:=h
   simp [aD.length h2]
theorem aD.append {g:Gh}:∀ {l l':List AV} {vs vs':List Value},aD g l vs->aD g l' vs'->aD g (l++l') (vs++vs')
 | [],_,_,_,h,h'=>by simp only [aD] at h; subst h; simpa using h'
 | _::xs,_,_,_,h,h'=>by
   simp only [aD,gE] at h ⊢
   obtain ⟨u,us,rfl,h1,h2⟩:=h
   exact ⟨u,us++_,rfl,h1,aD.append h2 h'⟩
theorem aD.get {g:Gh}:∀ {l:List AV} {vs:List Value} {i:Nat} {x:AV},aD g l vs->l[i]?=some x->∃ v,vs[i]?=some v/\ay g x v
 | [],_,_,_,_,hx=>by simp at hx
 | y::xs,_,0,x,h,hx=>by
   simp only [aD] at h
   obtain ⟨u,us,rfl,h1,h2⟩:=h
   simp at hx; subst hx; exact ⟨u,rfl,h1⟩
 | y::xs,_,i+1,x,h,hx=>by
   simp only [aD] at h
   obtain ⟨u,us,rfl,h1,h2⟩:=h
   simp at hx
   obtain ⟨v,hv,hr⟩:=aD.get h2 hx
   exact ⟨v,by simpa using hv,hr⟩
theorem aD.drop {g:Gh}:∀ {l:List AV} {vs:List Value} (n:Nat),aD g l vs->aD g (l.drop n) (vs.drop n)
 | _,_,0,h=>by simpa using h
 | [],_,n+1,h=>by simp only [aD] at h; subst h; simp [aD]
 | _::xs,_,n+1,h=>by
   simp only [aD] at h
   obtain ⟨u,us,rfl,h1,h2⟩:=h
   simpa using aD.drop n h2
theorem aD.take {g:Gh}:∀ {l:List AV} {vs:List Value} (n:Nat),aD g l vs->aD g (l.take n) (vs.take n)
 | _,_,0,_=>by simp [aD]
 | [],_,n+1,h=>by simp only [aD] at h; subst h; simp [aD]
 | _::xs,_,n+1,h=>by
   simp only [aD] at h
   obtain ⟨u,us,rfl,h1,h2⟩:=h
   simp only [List.take_succ_cons,aD]
   exact ⟨u,_,rfl,h1,aD.take n h2⟩
theorem aD.Ds {g:Gh}:∀ {l:List AV} {vs:List Value},vs.length=l.length->(∀ (i:Nat) (x:AV) (v:Value),l[i]?=some x->vs[i]?=some v->ay g x v)->aD g l vs
 | [],vs,hl,_=>by simp only [aD]; simpa using hl
 | x::xs,[],hl,_=>by simp at hl
 | x::xs,v::vs,hl,h=>by
   simp only [aD]
   exact ⟨v,vs,rfl,h 0 x v rfl rfl,aD.Ds (by simpa using hl) fun i x v hx hv=>h (i+1) x v (by simpa using hx) (by simpa using hv)⟩
def xw (g:Gh) (ks vs:List AV) (es:Array MapEntry):Prop:=∃ l:List MapEntry,l.Perm es.toList/\pY ks/\aD g ks (l.map (·.key))/\aD g vs (l.map (·.val))
def CC (g:Gh) (es:Array MapEntry) (seen:Array Nat) (rest:List (AV × AV)) (cur:Option (AV × AV)):Prop :=
 (∃ l:List MapEntry,l.Perm (es.toList.filter fun e=>!seen.contains e.born)/\aD g (rest.map (·.1)) (l.map (·.key))/\aD g (rest.map (·.2)) (l.map (·.val))) /\
 (match cur with
  | none=>True
  | some (k,v)=>∃ e ∈ es.toList,seen.back?=some e.born/\ay g k e.key/\ay g v e.val)
def mi (g:Gh) (w:World) (p:Place):Live->Prop
 | .box l=>∃ cur vs rest,w.heap[p.aF]?=some (.cells cur p.e (0,0))/\cur.size=p.size/\cur.toList=vs++rest/\aD g l vs/\(∀ u ∈ cur.toList,u.oneCell'=true)/\(∀ o,g.ct p.aF o=none)
 | .tok t=>∃ cur,w.heap[p.aF]?=some (.cells cur t.e (0,0))/\cur.size=p.size * t.size/\t.n <= p.size/\p.size <= maxLen/\(∀ o,t.n * t.size <= o->g.ct p.aF o=none)
 | .mp ks vs=>∃ es clock,w.heap[p.aF]?=some (.map es clock)/\lE es clock/\xw g ks vs es/\g.bY p.aF=none
 | .loop L=>∃ fn tmps defers,w.heap[p.aF]?=some (.loop { state:=L.state,pending:=L.gh,fn,tmps,params:=L.params,assign:=L.assign,body:=L.body,defers })/\tmps.size=L.nt/\∀ t,ay g (L.ρ t) (tmps.getD t undef)
 | .iter rest cur=>∃ m es clock seen,w.heap[p.aF]?=some (.mapIter (some m) clock seen clock)/\g.bY m=some (es,clock)/\CC g es seen rest cur
 | .tG t l=>p.e=t/\p.size=l.length/\∃ cur vs rest,w.heap[p.aF]?=some (.cells cur p.e (0,0))/\cur.size=p.size/\cur.toList=vs++rest/\aD g l vs/\(∀ u ∈ cur.toList,u.oneCell'=true)/\(∀ o,g.ct p.aF o=none)
structure St where
 live:Nat->Option Live
 nb:Option Nat
def St.box (U:St) (b:Nat):Option (List AV):=match U.live b with | some (.box l)=>some l | some (.tG _ l)=>some l | _=>none
def St.tok (U:St) (b:Nat):Option Tok:=match U.live b with | some (.tok t)=>some t | _=>none
def St.mp (U:St) (b:Nat):Option (List AV × List AV):=match U.live b with | some (.mp ks vs)=>some (ks,vs) | _=>none
def St.loop (U:St) (b:Nat):Option fL:=match U.live b with | some (.loop L)=>some L | _=>none
def St.iter (U:St) (b:Nat):Option (List (AV × AV) × Option (AV × AV)):=match U.live b with | some (.iter r c)=>some (r,c) | _=>none
theorem St.uf {U:St} {b:Nat} {l:List AV} (h:U.box b=some l):∃ x,U.live b=some x/\∀ g w p,mi g w p x->mi g w p (.box l):=by
 unfold St.box at h
 split at h
 . rename_i l' hl; cases h; exact ⟨_,hl,fun _ _ _ h=>h⟩
 . rename_i t l' hl; cases h; exact ⟨_,hl,fun _ _ _ h=>h.2.2⟩
 . cases h
theorem St.lD {U:St} {b:Nat} {l:Tok}:U.tok b=some l ↔ U.live b=some (.tok l):=by unfold St.tok; split <;> simp_all
theorem St.qe {U:St} {b:Nat} {l:List AV × List AV}:U.mp b=some l ↔ U.live b=some (.mp l.1 l.2):=by unfold St.mp; split <;> simp_all [Prod.ext_iff]
theorem St.og {U:St} {b:Nat} {l:fL}:U.loop b=some l ↔ U.live b=some (.loop l):=by unfold St.loop; split <;> simp_all
theorem St.xU {U:St} {b:Nat} {l:List (AV × AV) × Option (AV × AV)}:U.iter b=some l ↔ U.live b=some (.iter l.1 l.2):=by unfold St.iter; split <;> simp_all [Prod.ext_iff]
def St.set (U:St) (b:Nat) (x:Live):St:={ U with live:=fun y=>if y=b then some x else U.live y }
def St.del (U:St) (b:Nat):St:={ U with live:=fun y=>if y=b then none else U.live y }
def St.new (U:St) (b:Nat) (x:Live):St:={ live:=fun y=>if y=b then some x else U.live y,nb:=U.nb.map (·+1) }
def St.dA (U:St) (b:Nat):Prop:=U.live b=none/\∀ n,U.nb=some n->b=n
structure bo (g:Gh) (U:St) (w:World):Prop where
 below:Below g.base g.w0 w
 le:g.base <= w.heap.size
 ct:∀ aF o u,g.ct aF o=some u->w.cell? ⟨aF,o,none⟩=some u/\u.oneCell'=true
 bY:∀ r es c,g.bY r=some (es,c)->w.heap[r]?=some (.map es c)/\lE es c
 live:∀ b x,U.live b=some x->∃ p,g.place b=some p/\g.base <= p.aF/\mi g w p x
 apart:∀ b b' x x' p p',U.live b=some x->U.live b'=some x'->g.place b=some p->g.place b'=some p'->p.aF=p'.aF->b=b'
 res:∀ r,g.res r=true->g.base <= r/\w.heap[r]?=some (.deferred (some []))
 fin:∃ N,(∀ n,U.nb=some n->N=n)/\∀ b,N <= b->g.place b=none
end Go.Rip
namespace Go.Rip
open Go.RowKit
structure St.Le (U ad:St):Prop where
 live:∀ b x,U.live b=some x->ad.live b=some x
 nb:∀ n,U.nb=some n->ad.nb=some n
theorem St.Le.refl (U:St):St.Le U U:=⟨fun _ _ h=>h,fun _ h=>h⟩
theorem St.Le.trans {a b c:St} (h:St.Le a b) (k:St.Le b c):St.Le a c:=⟨fun _ _ x=>k.live _ _ (h.live _ _ x),fun _ x=>k.nb _ (h.nb _ x)⟩
theorem St.ug (U:St) (b:Nat):St.Le (U.del b) U:=⟨fun x y hx=>by simp only [St.del] at hx; split at hx <;> simp_all,fun _ h=>h⟩
theorem bo.weaken {g:Gh} {U ad:St} {w:World} (h:bo g ad w) (hl:St.Le U ad):bo g U w where
 below:=h.below
 le:=h.le
 ct:=h.ct
 bY:=h.bY
 live:=fun b l hb=>h.live b l (hl.live _ _ hb)
 apart:=fun b b' l l' x x' h1 h2=>h.apart b b' l l' x x' (hl.live _ _ h1) (hl.live _ _ h2)
 res:=h.res
 fin:=let ⟨N,h1,h2⟩:=h.fin; ⟨N,fun n hn=>h1 n (hl.nb n hn),h2⟩
theorem GG {w w':World} {k:Nat} (h:w'.heap[k]?=w.heap[k]?) (o:Nat):w'.cell? ⟨k,o,none⟩=w.cell? ⟨k,o,none⟩:=by simp [World.cell?,h]
theorem bo.PY {g:Gh} {U:St} {w:World} (h:bo g U w) {aF o:Nat} {u:Value} (hi:g.ct aF o=some u):aF < w.heap.size :=
 World.block_lt_of_cell? w ⟨aF,o,none⟩ (h.ct _ _ _ hi).1
theorem bo.LA {g:Gh} {U:St} {w:World} (h:bo g U w) {r:Nat} {x:Array MapEntry × Nat} (hi:g.bY r=some x):r < w.heap.size :=
 (lN.1 (h.bY r x.1 x.2 hi).1).1
theorem bo.AE {g:Gh} {U:St} {w:World} (h:bo g U w) {q:Nat} (hq:w.heap.size <= q) (o:Nat):g.ct q o=none:=by
 cases e:g.ct q o with
 | none=>rfl
 | some u=>have:=h.PY e; omega
theorem bo.xN {g:Gh} {U:St} {w:World} (h:bo g U w) {q:Nat} (hq:w.heap.size <= q):g.bY q=none:=by
 cases e:g.bY q with
 | none=>rfl
 | some u=>have:=h.LA e; omega
theorem xw.fA {g g':Gh} (h:Gh.ud g g') {ks vs:List AV} {es:Array MapEntry} (hm:xw g ks vs es):xw g' ks vs es :=
 let ⟨l,h1,h2,h3,h4⟩:=hm; ⟨l,h1,h2,h3.fA h,h4.fA h⟩
theorem CC.fA {g g':Gh} (h:Gh.ud g g') {es:Array MapEntry} {seen:Array Nat} {rest:List (AV × AV)} {cur:Option (AV × AV)} (hm:CC g es seen rest cur):CC g' es seen rest cur:=by
 obtain ⟨⟨l,h1,h2,h3⟩,h4⟩:=hm
 refine ⟨⟨l,h1,h2.fA h,h3.fA h⟩,?_⟩
 cases cur with
 | none=>trivial
 | some kv=>obtain ⟨e,k1,k2,k3,k4⟩:=h4; exact ⟨e,k1,k2,k3.fA h,k4.fA h⟩
theorem mi.frame {g g':Gh} {w w':World} {p:Place} {x:Live} (h:mi g w p x) (hl:Gh.ud g g') (hb:w'.heap[p.aF]?=w.heap[p.aF]?) (hi:∀ o,g'.ct p.aF o=g.ct p.aF o) (hm:g'.bY p.aF=g.bY p.aF):mi g' w' p x:=by
 cases x with
 | box l=>obtain ⟨cur,vs,rest,h1,h2,h3,h4,h5,h6⟩:=h; exact ⟨cur,vs,rest,hb.trans h1,h2,h3,h4.fA hl,h5,fun o=>(hi o).trans (h6 o)⟩
 | tok t=>obtain ⟨cur,h1,h2,h3,h4,h5⟩:=h; exact ⟨cur,hb.trans h1,h2,h3,h4,fun o ho=>(hi o).trans (h5 o ho)⟩
 | mp ks vs=>obtain ⟨es,clock,h1,h2,h3,h4⟩:=h; exact ⟨es,clock,hb.trans h1,h2,h3.fA hl,hm.trans h4⟩
 | loop L=>obtain ⟨fn,tmps,defers,h1,h2,h3⟩:=h; exact ⟨fn,tmps,defers,hb.trans h1,h2,fun t=>(h3 t).fA hl⟩
 | iter rest cur=>obtain ⟨m,es,clock,seen,h1,h2,h3⟩:=h; exact ⟨m,es,clock,seen,hb.trans h1,hl.bY _ _ h2,h3.fA hl⟩
 | tG t l=>obtain ⟨e1,e2,cur,vs,rest,h1,h2,h3,h4,h5,h6⟩:=h; exact ⟨e1,e2,cur,vs,rest,hb.trans h1,h2,h3,h4.fA hl,h5,fun o=>(hi o).trans (h6 o)⟩
theorem mi.lt {g:Gh} {w:World} {p:Place} {x:Live} (h:mi g w p x):p.aF < w.heap.size:=by
 have:∃ o,w.heap[p.aF]?=some o:=by
  cases x with
  | box l=>obtain ⟨cur,vs,rest,h1,_⟩:=h; exact ⟨_,h1⟩
  | tok t=>obtain ⟨cur,h1,_⟩:=h; exact ⟨_,h1⟩
  | mp ks vs=>obtain ⟨es,clock,h1,_⟩:=h; exact ⟨_,h1⟩
  | loop L=>obtain ⟨fn,tmps,defers,h1,_⟩:=h; exact ⟨_,h1⟩
  | iter rest cur=>obtain ⟨m,es,clock,seen,h1,_⟩:=h; exact ⟨_,h1⟩
  | tG t l=>obtain ⟨_,_,cur,vs,rest,h1,_⟩:=h; exact ⟨_,h1⟩
 exact (lN.1 this.choose_spec).1
theorem mi.LX {g:Gh} {w:World} {p:Place} {x:Live} (h:mi g w p x) {r:Nat} {ds:Option (List Deferred)} (hr:w.heap[r]?=some (.deferred ds)):p.aF ≠ r:=by
 intro e
 subst e
 cases x with
 | box l=>obtain ⟨cur,vs,rest,h1,_⟩:=h; rw [hr] at h1; cases h1
 | tok t=>obtain ⟨cur,h1,_⟩:=h; rw [hr] at h1; cases h1
 | mp ks vs=>obtain ⟨es,clock,h1,_⟩:=h; rw [hr] at h1; cases h1
 | loop L=>obtain ⟨fn,tmps,defers,h1,_⟩:=h; rw [hr] at h1; cases h1
 | iter rest cur=>obtain ⟨m,es,clock,seen,h1,_⟩:=h; rw [hr] at h1; cases h1
 | tG t l=>obtain ⟨_,_,cur,vs,rest,h1,_⟩:=h; rw [hr] at h1; cases h1
theorem bo.change {g g':Gh} {U:St} {w w':World} (h:bo g U w) (B:Nat) (hB:g.base <= B) (hle:Gh.Le g g') (nx:g'.place=g.place) (hres:g'.res=g.res)
 (hw:w'.os=w.os/\w'.tape=w.tape/\w'.output=w.output/\w.heap.size <= w'.heap.size) (hk:∀ k,k ≠ B->k < w.heap.size->w'.heap[k]?=w.heap[k]?)
 (oS:∀ q o,q ≠ B->g'.ct q o=g.ct q o) (Wv:∀ q,q ≠ B->g'.bY q=g.bY q)
 (hi:∀ o u,g'.ct B o=some u->w'.cell? ⟨B,o,none⟩=some u/\u.oneCell'=true) (hm:∀ es c,g'.bY B=some (es,c)->w'.heap[B]?=some (.map es c)/\lE es c)
 (jC:∀ b x p,U.live b=some x->g.place b=some p->p.aF ≠ B) (adV:g.res B=false):bo g' U w':=by
 have aQ:∀ k o,w.heap[k]?=some o->k ≠ B->w'.heap[k]?=some o:=fun k o hko hn=>by rw [hk k hn (lN.1 hko).1]; exact hko
 exact {
  below:=by
   rw [hle.base,hle.w0]
   exact h.below.trans ⟨hw.1,hw.2.1,hw.2.2.1,hw.2.2.2,fun k hkb=>hk k (by omega) (by have:=h.le; omega)⟩
  le:=by rw [hle.base]; exact Nat.le_trans h.le hw.2.2.2
  ct:=fun q o u hu=>by
   by_cases hq:q=B
   . subst hq; exact hi o u hu
   . rw [oS q o hq] at hu
     rw [GG (hk q hq (h.PY hu))]; exact h.ct _ _ _ hu
  bY:=fun r es c hr=>by
   by_cases hq:r=B
   . subst hq; exact hm es c hr
   . rw [Wv r hq] at hr
     rw [hk r hq (h.LA hr)]; exact h.bY _ _ _ hr
  live:=fun b x hb=>by
   obtain ⟨p,h1,h2,h3⟩:=h.live b x hb
   have Lt:=jC b x p hb h1
   refine ⟨p,by rw [nx]; exact h1,by rw [hle.base]; exact h2,h3.frame hle.r (hk _ Lt h3.lt) (fun o=>oS _ _ Lt) (Wv _ Lt)⟩
  apart:=fun b b' x x' p p' h1 h2 h3 h4 h5=>by rw [nx] at h3 h4; exact h.apart b b' x x' p p' h1 h2 h3 h4 h5
  res:=fun r hr=>by
   rw [hres] at hr
   obtain ⟨h1,h2⟩:=h.res r hr
   rw [hle.base]
   exact ⟨h1,aQ _ _ h2 (fun e=>by subst e; rw [adV] at hr; cases hr)⟩
  fin:=by rw [nx]; exact h.fin }
theorem bo.named {g:Gh} {U:St} {w:World} (h:bo g U w) {b:Nat} {p:Place} {x:Live} (hb:g.place b=some p) (hB:g.base <= p.aF) (hx:mi g w p x)
 (jC:∀ b' x' p',b' ≠ b->U.live b'=some x'->g.place b'=some p'->p'.aF ≠ p.aF):bo g (U.set b x) w where
 below:=h.below
 le:=h.le
 ct:=h.ct
 bY:=h.bY
 live:=fun b' x' fC=>by
  simp only [St.set] at fC
  split at fC
  . rename_i e; subst e; cases fC; exact ⟨p,hb,hB,hx⟩
  . exact h.live b' x' fC
 apart:=fun b1 b2 x1 x2 p1 p2 h1 h2 h3 h4 h5=>by
  simp only [St.set] at h1 h2
  by_cases e1:b1=b <;> by_cases e2:b2=b
  . rw [e1,e2]
  . rw [if_neg e2] at h2
    subst e1; rw [hb] at h3; cases h3
    exact absurd h5.symm (jC _ _ _ e2 h2 h4)
  . rw [if_neg e1] at h1
    subst e2; rw [hb] at h4; cases h4
    exact absurd h5 (jC _ _ _ e1 h1 h3)
  . rw [if_neg e1] at h1; rw [if_neg e2] at h2
    exact h.apart _ _ _ _ _ _ h1 h2 h3 h4 h5
 res:=h.res
 fin:=h.fin
def Gh.pe (g:Gh) (b:Nat) (p:Place):Gh:={ g with place:=fun y=>if y=b then some p else g.place y }
theorem Gh.kG (g:Gh) (b:Nat) (p:Place):(g.pe b p).place b=some p:=by simp [Gh.pe]
theorem Gh.oJ (g:Gh) {b y:Nat} (p:Place) (h:y ≠ b):(g.pe b p).place y=g.place y:=by simp [Gh.pe,h]
theorem Gh.Bz {g:Gh} {b:Nat} (p:Place) (h:g.place b=none):Gh.Le g (g.pe b p) :=
 ⟨rfl,rfl,fun y x hy=>by rw [Gh.oJ _ _ (fun e=>by subst e; rw [h] at hy; cases hy)]; exact hy,fun _ _ _ h=>h,fun _ _ h=>h,fun _ h=>h,fun _ _ _=>rfl,fun _ _=>rfl⟩
theorem bo.newName {g:Gh} {U:St} {w:World} (h:bo g U w) (p:Place) (hB:g.base <= p.aF) (jC:∀ b' x' p',U.live b'=some x'->g.place b'=some p'->p'.aF ≠ p.aF) :
 ∃ b,U.dA b/\Gh.Le g (g.pe b p)/\∀ x,mi (g.pe b p) w p x->bo (g.pe b p) (U.new b x) w:=by
 obtain ⟨N,hN1,hN2⟩:=h.fin
 have Bq:g.place N=none:=hN2 N (bT _)
 have hln:U.live N=none:=by
  cases e:U.live N with
  | none=>rfl
  | some x=>obtain ⟨p,h1,_⟩:=h.live N x e; rw [Bq] at h1; cases h1
 refine ⟨N,⟨hln,hN1⟩,Gh.Bz p Bq,fun x hx=>?_⟩
 have hle:=Gh.Bz (g:=g) p Bq
 have cr:∀ b x,U.live b=some x->b ≠ N:=fun b x hb e=>by subst e; rw [hln] at hb; cases hb
 exact {
  below:=h.below
  le:=h.le
  ct:=h.ct
  bY:=h.bY
  live:=fun b' x' fC=>by
   simp only [St.new] at fC
   split at fC
   . rename_i e; subst e; cases fC; exact ⟨p,Gh.kG _ _ _,hB,hx⟩
   . obtain ⟨p',h1,h2,h3⟩:=h.live b' x' fC
     exact ⟨p',hle.place _ _ h1,h2,h3.frame hle.r rfl (fun _=>rfl) rfl⟩
  apart:=fun b1 b2 x1 x2 p1 p2 h1 h2 h3 h4 h5=>by
   simp only [St.new] at h1 h2
   by_cases e1:b1=N <;> by_cases e2:b2=N
   . rw [e1,e2]
   . rw [if_neg e2] at h2; rw [Gh.oJ _ _ e2] at h4
     subst e1; rw [Gh.kG] at h3; cases h3
     exact absurd h5.symm (jC _ _ _ h2 h4)
   . rw [if_neg e1] at h1; rw [Gh.oJ _ _ e1] at h3
     subst e2; rw [Gh.kG] at h4; cases h4
     exact absurd h5 (jC _ _ _ h1 h3)
   . rw [if_neg e1] at h1; rw [if_neg e2] at h2
     rw [Gh.oJ _ _ e1] at h3; rw [Gh.oJ _ _ e2] at h4
     exact h.apart _ _ _ _ _ _ h1 h2 h3 h4 h5
  res:=h.res
  fin:=⟨N+1,fun n hn=>by
   simp only [St.new,pV] at hn
   obtain ⟨m,hm,rfl⟩:=hn
   rw [hN1 m hm],fun b hb=>by rw [Gh.oJ _ _ (by omega)]; exact hN2 b (by omega)⟩ }
theorem bo.grow {g:Gh} {U:St} {w w':World} (h:bo g U w) (hg:w.grownBy w' none):bo g U w':=by
 have hb:∀ k,k < w.heap.size->w'.heap[k]?=w.heap[k]?:=fun k hk=>hg.block k hk (by simp)
 refine h.change w.heap.size h.le (Gh.Le.refl g) rfl rfl ⟨hg.os,hg.tape,hg.output,hg.size⟩ (fun k _ hk=>hb k hk) (fun _ _ _=>rfl) (fun _ _=>rfl) (fun o u hu=>?_) (fun es c hr=>?_) (fun b x p h1 h2=>?_) ?_
 . rw [h.AE (bT _)] at hu; cases hu
 . rw [h.xN (bT _)] at hr; cases hr
 . obtain ⟨p',k1,_,k3⟩:=h.live b x h1
   rw [h2] at k1; cases k1
   exact Nat.ne_of_lt k3.lt
 . cases e:g.res w.heap.size with
   | false=>rfl
   | true=>have:=(lN.1 (h.res _ e).2).1; omega
theorem lG (w:World):w.grownBy w.drew none:=⟨rfl,rfl,rfl,bT _,fun _ _ _=>rfl⟩
theorem bo.EJ {g:Gh} {U:St} {w:World} (h:bo g U w) {q:Nat} (hq:w.heap.size <= q):g.res q=false:=by
 cases e:g.res q with
 | false=>rfl
 | true=>have:=(lN.1 (h.res _ e).2).1; omega
theorem bo.yd {g:Gh} {U:St} {w:World} (h:bo g U w) {b:Nat} {x:Live} {p:Place} (hb:U.live b=some x) (hp:g.place b=some p):p.aF < w.heap.size:=by
 obtain ⟨p',k1,_,k3⟩:=h.live b x hb
 rw [hp] at k1; cases k1
 exact k3.lt
theorem bo.uK {g:Gh} {U:St} {w:World} (h:bo g U w) {b:Nat} {x:Live} {p:Place} (hb:U.live b=some x) (hp:g.place b=some p):g.res p.aF=false:=by
 cases e:g.res p.aF with
 | false=>rfl
 | true =>
   obtain ⟨p',k1,_,k3⟩:=h.live b x hb
   rw [hp] at k1; cases k1
   exact absurd rfl (k3.LX (h.res _ e).2)
theorem bo.uE {g:Gh} {U:St} {w:World} (h:bo g U w) (o:Obj) (e:TypeId) (size:Nat) (x:Live)
 (hx:∀ g',Gh.Le g g'->(∀ o,g'.ct w.heap.size o=none)->g'.bY w.heap.size=none->mi g' (w.alloc o) ⟨w.heap.size,e,size⟩ x) :
 ∃ b g',U.dA b/\Gh.Le g g'/\g'.place b=some ⟨w.heap.size,e,size⟩/\bo g' (U.new b x) (w.alloc o):=by
 have hs:=h.grow (w.grownBy_alloc o none)
 obtain ⟨b,h1,h2,h3⟩:=hs.newName ⟨w.heap.size,e,size⟩ h.le (fun b' x' p' k1 k2=>Nat.ne_of_lt (h.yd k1 k2))
 exact ⟨b,_,h1,h2,Gh.kG _ _ _,h3 x (hx _ h2 (fun o=>h.AE (bT _) o) (h.xN (bT _)))⟩
end Go.Rip
namespace Go.Rip
open Go.RowKit
def St.bZ (U:St) (b:Nat) (l:List AV):St:=U.set b (.box l)
def St.aeg (U:St) (b:Nat) (kv:List AV × List AV):St:=U.set b (.mp kv.1 kv.2)
theorem bo.box {g:Gh} {U:St} {w:World} (h:bo g U w) (b:Nat) (l:List AV) (hb:U.box b=some l):∃ x cur vs rest,g.box b=some x/\g.base <= x.aF/\w.heap[x.aF]?=some (.cells cur x.e (0,0))/\cur.size=x.size/\cur.toList=vs++rest/\aD g l vs /\
 (∀ u ∈ cur.toList,u.oneCell'=true)/\(∀ o,g.ct x.aF o=none):=by
 obtain ⟨y,hy,hyb⟩:=St.uf hb
 obtain ⟨p,h1,h2,hp⟩:=h.live b _ hy
 obtain ⟨cur,vs,rest,h3,h4,h5,h6,h7,h8⟩:=hyb _ _ _ hp
 exact ⟨p,cur,vs,rest,h1,h2,h3,h4,h5,h6,h7,h8⟩
theorem bo.tok {g:Gh} {U:St} {w:World} (h:bo g U w) (τ:Nat) (t:Tok) (ht:U.tok τ=some t):∃ aF c cur,g.tok τ=some (aF,c)/\g.base <= aF/\w.heap[aF]?=some (.cells cur t.e (0,0))/\cur.size=c * t.size/\t.n <= c/\c <= maxLen /\
 (∀ o,t.n * t.size <= o->g.ct aF o=none):=by
 obtain ⟨p,h1,h2,cur,h3,h4,h5,h6,h7⟩:=h.live τ _ (St.lD.1 ht)
 exact ⟨p.aF,p.size,cur,Gh.lD.2 ⟨p,h1,rfl,rfl⟩,h2,h3,h4,h5,h6,h7⟩
theorem bo.mp {g:Gh} {U:St} {w:World} (h:bo g U w) (m:Nat) (kv:List AV × List AV) (hm:U.mp m=some kv):∃ r es clock,g.mp m=some r/\g.base <= r/\w.heap[r]?=some (.map es clock)/\lE es clock/\xw g kv.1 kv.2 es/\g.bY r=none:=by
 obtain ⟨p,h1,h2,es,clock,h3,h4,h5,h6⟩:=h.live m _ (St.qe.1 hm)
 exact ⟨p.aF,es,clock,Gh.qe.2 ⟨p,h1,rfl⟩,h2,h3,h4,h5,h6⟩
theorem bo.rewrite {g:Gh} {U:St} {w w':World} (h:bo g U w) {b:Nat} {x x':Live} {p:Place} (hb:U.live b=some x) (hp:g.place b=some p)
 (hw:w'.os=w.os/\w'.tape=w.tape/\w'.output=w.output/\w.heap.size <= w'.heap.size) (hk:∀ k,k ≠ p.aF->k < w.heap.size->w'.heap[k]?=w.heap[k]?)
 (hi:∀ o,g.ct p.aF o=none) (hm:g.bY p.aF=none) (hx:mi g w' p x'):bo g (U.set b x') w':=by
 obtain ⟨p',k1,k2,k3⟩:=h.live b x hb
 rw [hp] at k1; cases k1
 have jC:∀ b' x' p',b' ≠ b->U.live b'=some x'->g.place b'=some p'->p'.aF ≠ p.aF:=fun b' x' p' cr h1 h2 e=>cr (h.apart _ _ _ _ _ _ h1 hb h2 hp e)
 have hd:∀ b' x' p',(U.del b).live b'=some x'->g.place b'=some p'->p'.aF ≠ p.aF:=fun b' x' p' h1 h2=>by
  simp only [St.del] at h1
  split at h1
  . cases h1
  . rename_i e; exact jC _ _ _ e h1 h2
 have h1:=(h.weaken (St.ug U b)).change p.aF k2 (Gh.Le.refl g) rfl rfl hw hk (fun _ _ _=>rfl) (fun _ _=>rfl) (fun o u hu=>by rw [hi] at hu; cases hu) (fun es c hr=>by rw [hm] at hr; cases hr) hd (h.uK hb hp)
 have h2:=h1.named hp k2 hx (fun b' x' p' _ q1 q2=>hd b' x' p' q1 q2)
 have e:(U.del b).set b x'=U.set b x':=by
  simp only [St.del,St.set,St.mk.injEq,and_true]
  funext y
  split <;> rfl
 rw [<- e]; exact h2
theorem bo.db {g:Gh} {U:St} {w:World} (h:bo g U w) (e:TypeId) (cur:Array Value) (vs rest:List Value) (l:List AV) (hc:cur.toList=vs++rest) (hl:aD g l vs) (h1:∀ u ∈ cur.toList,u.oneCell'=true) :
 ∃ b g',U.dA b/\Gh.Le g g'/\g'.box b=some ⟨w.heap.size,e,cur.size⟩/\bo g' (U.new b (.box l)) (w.alloc (.cells cur e)) :=
 h.uE (.cells cur e) e cur.size (.box l) fun g' hle hi hm=>⟨cur,vs,rest,heap_alloc_new w _,rfl,hc,hl.mono hle,h1,hi⟩
theorem bo.Qp {g:Gh} {U:St} {w:World} (h:bo g U w) (e:TypeId) (cur:Array Value) (vs rest:List Value) (hc:cur.toList=vs++rest) (h1:∀ u ∈ cur.toList,u.oneCell'=true) :
 ∃ g',Gh.Le g g'/\mh g' w.heap.size 0 vs/\(∀ o,vs.length <= o->g'.ct w.heap.size o=none)/\g'.place=g.place/\bo g' U (w.alloc (.cells cur e)):=by
 let g':Gh:={ g with ct:=fun aF o=>if aF=w.heap.size then vs[o]? else g.ct aF o }
 have qx:∀ o,g'.ct w.heap.size o=vs[o]?:=fun o=>by show (if w.heap.size=w.heap.size then _ else _)=_; rw [if_pos rfl]
 have hold:∀ aF o,aF ≠ w.heap.size->g'.ct aF o=g.ct aF o:=fun aF o hx=>by show (if aF=w.heap.size then _ else _)=_; rw [if_neg hx]
 have hle:Gh.Le g g':=⟨rfl,rfl,fun _ _ h=>h,fun aF o u hu=>by
  rw [hold _ _ (fun e=>by subst e; rw [h.AE (bT _)] at hu; cases hu)]; exact hu,fun _ _ h=>h,fun _ h=>h,fun q o hq=>hold _ _ (by have:=h.le; omega),fun _ _=>rfl⟩
 have hg:=w.grownBy_alloc (.cells cur e) none
 refine ⟨g',hle,fun i u hu=>by rw [df,qx]; exact hu,fun o ho=>by rw [qx]; simpa using ho,rfl,?_⟩
 refine h.change w.heap.size h.le hle rfl rfl ⟨hg.os,hg.tape,hg.output,hg.size⟩ (fun k _ hk=>hg.block k hk (by simp)) (fun q o hq=>hold q o hq) (fun _ _=>rfl) (fun o u hu=>?_) (fun es c hr=>?_) (fun b x p k1 k2=>Nat.ne_of_lt (h.yd k1 k2)) (h.EJ (bT _))
 . rw [qx] at hu
   have CX:cur[o]?=some u:=by
    rw [<- lO,hc,wc (by
     rcases kO o vs.length with h | h
     . exact h
     . simp [ym h] at hu)]
    exact hu
   exact ⟨by rw [cell_of_row _ _ _ cur e (0,0) (heap_alloc_new w _)]; exact CX,h1 u (gr (by rw [lO]; exact CX))⟩
 . have:g.bY w.heap.size=some (es,c):=hr
   rw [h.xN (bT _)] at this; cases this
theorem bo.oB {g:Gh} {U:St} {w:World} (h:bo g U w) {r:Nat} {c:Array Value} {e:TypeId} {f:Nat × Nat} (hh:w.heap[r]?=some (.cells c e f)):g.bY r=none:=by
 cases e:g.bY r with
 | none=>rfl
 | some x=>have:=(h.bY r x.1 x.2 e).1; rw [hh] at this; cases this
theorem bo.setRow {g:Gh} {U:St} {w:World} (h:bo g U w) {b:Nat} {l l':List AV} {x:Place} (hb:U.box b=some l) (hx:g.box b=some x)
 (cur:Array Value) (vs rest:List Value) (fh:cur.size=x.size) (hc:cur.toList=vs++rest) (hl:aD g l' vs) (h1:∀ u ∈ cur.toList,u.oneCell'=true) :
 bo g (U.bZ b l') (w.setRow x.aF cur):=by
 obtain ⟨x',aaV,vs0,aed,k1,k2,k3,k4,k5,k6,k7,k8⟩:=h.box b l hb
 rw [hx] at k1; cases k1
 obtain ⟨y,hy,_⟩:=St.uf hb
 exact h.rewrite hy hx ⟨rfl,rfl,rfl,by simp⟩ (fun k hk _=>setRow_other _ _ _ _ hk) k8 (h.oB k3) ⟨cur,vs,rest,setRow_heap w x.aF aaV cur x.e (0,0) k3,fh,hc,hl,h1,k8⟩
theorem bo.aec {g:Gh} {U:St} {w:World} (h:bo g U w) {b:Nat} {l:List AV} (hb:U.box b=some l):bo g (U.bZ b l) w:=by
 obtain ⟨y,hy,hyb⟩:=St.uf hb
 obtain ⟨p,h1,h2,hp⟩:=h.live b _ hy
 obtain ⟨cur,vs,rest,h3,h4,h5,h6,h7,h8⟩:=hyb _ _ _ hp
 exact h.rewrite hy h1 ⟨rfl,rfl,rfl,bT _⟩ (fun _ _ _=>rfl) h8 (h.oB h3) ⟨cur,vs,rest,h3,h4,h5,h6,h7,h8⟩
theorem Ev {cur cur':Array Value} {a:Nat} {news:List Value} (ha:a <= cur.size) (rn:cur'.toList=cur.toList.take a++news++cur.toList.drop (a+news.length)) (o:Nat) :
 cur'[o]?=if o < a then cur[o]? else if o < a+news.length then news[o - a]? else cur[o]?:=by
 rw [<- lO,rn,gi]
 have hl:(cur.toList.take a).length=a:=by simp; omega
 by_cases h1:o < a
 . rw [if_pos h1,wc (by omega),List.getElem?_take,if_pos h1,lO]
 . rw [if_neg h1,List.getElem?_append_right (by omega),hl]
   by_cases h2:o < a+news.length
   . rw [if_pos h2,wc (by omega)]
   . rw [if_neg h2,List.getElem?_append_right (by omega),List.getElem?_drop,lO]
     congr 1; omega
theorem bo.acg {g:Gh} {U:St} {w:World} (h:bo g U w) {τ:Nat} {t:Tok} {aF c:Nat} (ht:U.tok τ=some t) (hg:g.tok τ=some (aF,c))
 (cur cur':Array Value) (news:List Value) (m:Nat) (Na:w.heap[aF]?=some (.cells cur t.e (0,0))) (hlen:news.length=m * t.size) (pR:t.n+m <= c)
 (rn:cur'.toList=cur.toList.take (t.n * t.size)++news++cur.toList.drop (t.n * t.size+news.length)) (h1:∀ u ∈ news,u.oneCell'=true) :
 ∃ vL g',(U.del τ).dA vL/\Gh.Le g g'/\g'.tok vL=some (aF,c)/\mh g' aF (t.n * t.size) news/\bo g' ((U.del τ).new vL (.tok ⟨t.n+m,t.e,t.size⟩)) (w.setRow aF cur'):=by
 obtain ⟨p,hp,Lt,hpc⟩:=Gh.lD.1 hg
 dsimp only at Lt hpc
 subst Lt hpc
 obtain ⟨p',k1,k2,aaV,k3,k4,k5,k6,k7⟩:=h.live τ _ (St.lD.1 ht)
 rw [hp] at k1; cases k1
 rw [Na] at k3; cases k3
 have wK:(t.n+m) * t.size <= cur.size:=by rw [k4]; exact Nat.mul_le_mul_right _ pR
 have Fx:(t.n+m) * t.size=t.n * t.size+news.length:=by rw [hlen,Nat.add_mul]
 have fh:cur'.size=cur.size:=by
  have:=congrArg List.length rn
  simp only [tp,cM,List.length_take,List.length_drop] at this
  omega
 let g':Gh:={ g with ct:=fun q o=>if q=p.aF/\t.n * t.size <= o/\o < t.n * t.size+news.length then news[o - t.n * t.size]? else g.ct q o }
 have oS:∀ q o,q ≠ p.aF->g'.ct q o=g.ct q o:=fun q o hq=>by
  show (if _ then _ else _)=_
  rw [if_neg (fun e=>hq e.1)]
 have hle:Gh.Le g g':=⟨rfl,rfl,fun _ _ h=>h,fun q o u hu=>by
  show (if _ then _ else _)=_
  rw [if_neg (fun e=>by obtain ⟨rfl,e2,_⟩:=e; rw [k7 o e2] at hu; cases hu)]; exact hu,fun _ _ h=>h,fun _ h=>h,fun q o hq=>oS _ _ (by omega),fun _ _=>rfl⟩
 have IC:=setRow_heap w p.aF cur cur' t.e (0,0) Na
 have ti:=fun o=>Ev (cur:=cur) (cur':=cur') (a:=t.n * t.size) (news:=news) (by omega) rn o
 have jC:∀ b' x' p',(U.del τ).live b'=some x'->g.place b'=some p'->p'.aF ≠ p.aF:=fun b' x' p' h1 h2 e=>by
  simp only [St.del] at h1
  split at h1
  . cases h1
  . rename_i ne; exact ne (h.apart _ _ _ _ _ _ h1 (St.lD.1 ht) h2 hp e)
 have hs:=(h.weaken (St.ug U τ)).change (w':=w.setRow p.aF cur') p.aF k2 hle rfl rfl ⟨rfl,rfl,rfl,by simp⟩ (fun k hk _=>setRow_other _ _ _ _ hk) oS (fun _ _=>rfl) (fun o u hu=>by
  rw [cell_of_row _ _ _ cur' t.e (0,0) IC,ti]
  have pO:(if p.aF=p.aF/\t.n * t.size <= o/\o < t.n * t.size+news.length then news[o - t.n * t.size]? else g.ct p.aF o)=some u:=hu
  by_cases ho:o < t.n * t.size
  . rw [if_pos ho]
    rw [if_neg (by omega)] at pO
    have:=h.ct _ _ _ pO
    rw [cell_of_row _ _ _ cur t.e (0,0) Na] at this
    exact this
  . rw [if_neg ho]
    by_cases WG:o < t.n * t.size+news.length
    . rw [if_pos WG]
      rw [if_pos ⟨rfl,by omega,WG⟩] at pO
      exact ⟨pO,h1 u (gr pO)⟩
    . rw [if_neg (by omega)] at pO
      rw [k7 o (by omega)] at pO; cases pO) (fun es c hr=>by
  have hr:g.bY p.aF=some (es,c):=hr
  rw [h.oB Na] at hr; cases hr) jC (h.uK (St.lD.1 ht) hp)
 obtain ⟨vL,f1,f2,f3⟩:=hs.newName p k2 jC
 refine ⟨vL,_,f1,hle.trans f2,Gh.lD.2 ⟨p,Gh.kG _ _ _,rfl,rfl⟩,fun i u hu=>?_,f3 _ ⟨cur',IC,by rw [fh]; exact k4,pR,k6,fun o ho=>?_⟩⟩
 . have hi:i < news.length:=by
    rcases kO i news.length with h | h
    . exact h
    . simp [ym h] at hu
   show (if _ then _ else _)=_
   rw [if_pos ⟨rfl,by omega,by omega⟩,Nat.add_sub_cancel_left]; exact hu
 . have ho:(t.n+m) * t.size <= o:=ho
   show (if _ then _ else _)=_
   rw [if_neg (by omega)]; exact k7 o (by omega)
theorem bo.rename {g:Gh} {U:St} {w:World} (h:bo g U w) {b:Nat} {x:Live} {p:Place} (hb:U.live b=some x) (hp:g.place b=some p) :
 ∃ b' g',(U.del b).dA b'/\Gh.Le g g'/\g'.place b'=some p/\bo g' ((U.del b).new b' x) w:=by
 obtain ⟨p',k1,k2,k3⟩:=h.live b x hb
 rw [hp] at k1; cases k1
 obtain ⟨b',f1,f2,f3⟩:=(h.weaken (St.ug U b)).newName p k2 (fun b' x' p' h1 h2 e=>by
  simp only [St.del] at h1
  split at h1
  . cases h1
  . rename_i ne; exact ne (h.apart _ _ _ _ _ _ h1 hb h2 hp e))
 exact ⟨b',_,f1,f2,Gh.kG _ _ _,f3 x (k3.frame f2.r rfl (fun _=>rfl) rfl)⟩
theorem bo.oE {g:Gh} {U:St} {w:World} (h:bo g U w) (e:TypeId) (size n c:Nat) (cur:Array Value) (vs rest:List Value) (hc:cur.toList=vs++rest) (h1:∀ u ∈ cur.toList,u.oneCell'=true)
 (zC:vs.length=n * size) (wK:cur.size=c * size) (Fw:n <= c) (wJ:c <= maxLen) :
 ∃ τ g',U.dA τ/\Gh.Le g g'/\g'.tok τ=some (w.heap.size,c)/\mh g' w.heap.size 0 vs/\bo g' (U.new τ (.tok ⟨n,e,size⟩)) (w.alloc (.cells cur e)):=by
 obtain ⟨g1,Im,oS,jC,nx,hs⟩:=h.Qp e cur vs rest hc h1
 obtain ⟨τ,f1,f2,f3⟩:=hs.newName ⟨w.heap.size,e,c⟩ (by rw [Im.base]; exact h.le) (fun b' x' p' k1 k2=>by rw [nx] at k2; exact Nat.ne_of_lt (h.yd k1 k2))
 exact ⟨τ,_,f1,Im.trans f2,Gh.lD.2 ⟨_,Gh.kG _ _ _,rfl,rfl⟩,oS,f3 _ ⟨cur,heap_alloc_new w _,wK,Fw,wJ,fun o ho=>jC o (by rw [zC]; exact ho)⟩⟩
theorem bo.freeze {g:Gh} {U:St} {w:World} (h:bo g U w) {b:Nat} {l:List AV} {x:Place} (hb:U.box b=some l) (hx:g.box b=some x) :
 ∃ g' vs,Gh.Le g g'/\g'.place=g.place/\mh g' x.aF 0 vs/\aD g l vs/\bo g' (U.del b) w:=by
 obtain ⟨x',cur,vs,rest,k1,k2,k3,k4,k5,k6,k7,k8⟩:=h.box b l hb
 rw [hx] at k1; cases k1
 let g':Gh:={ g with ct:=fun q o=>if q=x.aF then cur[o]? else g.ct q o }
 have qx:∀ o,g'.ct x.aF o=cur[o]?:=fun o=>by show (if x.aF=x.aF then _ else _)=_; rw [if_pos rfl]
 have hold:∀ q o,q ≠ x.aF->g'.ct q o=g.ct q o:=fun q o hq=>by show (if q=x.aF then _ else _)=_; rw [if_neg hq]
 have hle:Gh.Le g g':=⟨rfl,rfl,fun _ _ h=>h,fun q o u hu=>by
  rw [hold _ _ (fun e=>by subst e; rw [k8] at hu; cases hu)]; exact hu,fun _ _ h=>h,fun _ h=>h,fun q o hq=>hold _ _ (by omega),fun _ _=>rfl⟩
 refine ⟨g',vs,hle,rfl,fun i u hu=>by
  have hi:i < vs.length:=by
   rcases kO i vs.length with h | h
   . exact h
   . simp [ym h] at hu
  rw [df,qx,<- lO,k5,wc hi]; exact hu,k6,?_⟩
 obtain ⟨y,hy,_⟩:=St.uf hb
 refine (h.weaken (St.ug U b)).change x.aF k2 hle rfl rfl ⟨rfl,rfl,rfl,bT _⟩ (fun _ _ _=>rfl) hold (fun _ _=>rfl) (fun o u hu=>?_) (fun es c hr=>?_) (fun b' x' p' h1 h2 e=>?_) (h.uK hy hx)
 . rw [qx] at hu
   rw [cell_of_row _ _ _ cur x.e (0,0) k3]
   exact ⟨hu,k7 u (gr (by rw [lO]; exact hu))⟩
 . have hr:g.bY x.aF=some (es,c):=hr
   rw [h.oB k3] at hr; cases hr
 . simp only [St.del] at h1
   split at h1
   . cases h1
   . rename_i ne; exact ne (h.apart _ _ _ _ _ _ h1 hy h2 hx e)
theorem bo.QW {g:Gh} {U:St} {w:World} (h:bo g U w) {m r:Nat} {kv kv':List AV × List AV} {es wz:Array MapEntry} {clock wx:Nat} (hm:U.mp m=some kv) (hg:g.mp m=some r) (hh:w.heap[r]?=some (.map es clock))
 (h1:xw g kv'.1 kv'.2 wz) (h2:lE wz wx) :
 bo g (U.aeg m kv') { w with heap:=w.heap.setIfInBounds r (Obj.map wz wx) }:=by
 obtain ⟨p,hp,rfl⟩:=Gh.qe.1 hg
 obtain ⟨p',k1,k2,es0,cl0,k3,k4,k5,k6⟩:=h.live m _ (St.qe.1 hm)
 rw [hp] at k1; cases k1
 have aQ:=(lN.1 hh).1
 have cr:∀ k,k ≠ p.aF->(w.heap.setIfInBounds p.aF (Obj.map wz wx))[k]?=w.heap[k]?:=fun k hk=>Array.getElem?_setIfInBounds_ne (Ne.symm hk)
 have qx:(w.heap.setIfInBounds p.aF (Obj.map wz wx))[p.aF]?=some (Obj.map wz wx):=by simp [aQ]
 exact h.rewrite (St.qe.1 hm) hp ⟨rfl,rfl,rfl,by simp⟩ (fun k hk _=>cr k hk) (fun o=>by
  cases e:g.ct p.aF o with
  | none=>rfl
  | some u=>have:=(h.ct _ _ _ e).1; simp [World.cell?,hh] at this) k6 ⟨wz,wx,qx,h2,h1,k6⟩
theorem bo.shut {g:Gh} {U:St} {w:World} (h:bo g U w) {r:Nat} (hr:g.res r=true):bo { g with res:=fun x=>if x=r then false else g.res x } U { w with heap:=w.heap.setIfInBounds r (Obj.deferred none) }:=by
 obtain ⟨k2,hh⟩:=h.res r hr
 have cr:∀ k,k ≠ r->(w.heap.setIfInBounds r (Obj.deferred none))[k]?=w.heap[k]?:=fun k hk=>Array.getElem?_setIfInBounds_ne (Ne.symm hk)
 have hl:Gh.ud g { g with res:=fun x=>if x=r then false else g.res x }:=⟨fun _ _ h=>h,fun _ _ _ h=>h,fun _ _ h=>h⟩
 exact {
  below:=h.below.trans ⟨rfl,rfl,rfl,by simp,fun k hk=>cr k (by have:=h.le; omega)⟩
  le:=by simpa using h.le
  ct:=fun aF o u hi=>by
   have lJ:=h.ct _ _ _ hi
   have:World.cell? { w with heap:=w.heap.setIfInBounds r (Obj.deferred none) } ⟨aF,o,none⟩=w.cell? ⟨aF,o,none⟩:=by
    simp only [World.cell?]
    rw [cr aF (fun e=>by subst e; simp [World.cell?,hh] at lJ)]
   rw [this]; exact lJ
  bY:=fun r' es c hr=>by
   obtain ⟨h1,h2⟩:=h.bY r' es c hr
   refine ⟨?_,h2⟩
   show (w.heap.setIfInBounds r (Obj.deferred none))[r']?=_
   rw [cr r' (fun e=>by subst e; rw [hh] at h1; cases h1)]; exact h1
  live:=fun b x hb=>by
   obtain ⟨p,h1,h2,h3⟩:=h.live b x hb
   exact ⟨p,h1,h2,h3.frame hl (cr _ (h3.LX hh)) (fun _=>rfl) rfl⟩
  apart:=h.apart
  res:=fun r' yT=>by
   have yT:(if r'=r then false else g.res r')=true:=yT
   split at yT
   . cases yT
   . rename_i e
     obtain ⟨q1,q2⟩:=h.res r' yT
     exact ⟨q1,by show (w.heap.setIfInBounds r (Obj.deferred none))[r']?=_; rw [cr r' e]; exact q2⟩
  fin:=h.fin }
theorem bo.YD {g:Gh} {U:St} {w:World} (h:bo g U w):Gh.Le g { g with res:=fun x=>if x=w.heap.size then true else g.res x }/\bo { g with res:=fun x=>if x=w.heap.size then true else g.res x } U (w.alloc (.deferred (some []))):=by
 have hl:Gh.ud g { g with res:=fun x=>if x=w.heap.size then true else g.res x }:=⟨fun _ _ h=>h,fun _ _ _ h=>h,fun _ _ h=>h⟩
 refine ⟨⟨rfl,rfl,fun _ _ h=>h,fun _ _ _ h=>h,fun _ _ h=>h,fun b hb=>by show (if _ then _ else _)=_; split <;> simp_all,fun _ _ _=>rfl,fun _ _=>rfl⟩,?_⟩
 have hs:=h.grow (w.grownBy_alloc (.deferred (some [])) none)
 exact {
  below:=hs.below
  le:=hs.le
  ct:=hs.ct
  bY:=hs.bY
  live:=fun b x hb=>by
   obtain ⟨p,h1,h2,h3⟩:=hs.live b x hb
   exact ⟨p,h1,h2,h3.frame hl rfl (fun _=>rfl) rfl⟩
  apart:=hs.apart
  res:=fun r hr=>by
   have hr:(if r=w.heap.size then true else g.res r)=true:=hr
   split at hr
   . rename_i e; subst e; exact ⟨h.le,heap_alloc_new w _⟩
   . exact hs.res r hr
  fin:=hs.fin }
end Go.Rip
namespace Go.Rip
open Go.RowKit
def mP:Value->Option AV
 | .bool b=>some (.bool b)
 | .int k n=>some (.int k n)
 | .string s=>some (.str s.data.toList)
 | .pointer none=>some .aW
 | .slice none 0 0=>some .aq
 | .map none=>some .jO
 | .nilFunc=>some .dV
 | .nilIface=>some .dq
 | _=>none
def TD:Option (List AV)->AV
 | some l=>.agg l
 | none=>.any
def Fg:Value->AV
 | .agg cs=>TD (cs.toList.mapM mP)
 | .func fn f c=>if f.isEmpty && c.isEmpty then .func fn [] [] else .any
 | .tuple vs=>if vs.isEmpty then .aH [] else .any
 | v=>(mP v).getD .any
def D7:TypeDesc->Bool
 | .struct _ | .array _ _=>true
 | _=>false
def oY (P:Program) (t:TypeId):Option (Bool × Nat) :=
 match P.info? t,P.underlying t with
 | some i,some d=>some (D7 d,i.size)
 | _,_=>none
def qt (P:Program) (t:TypeId):Option (List AV):=((P.info? t).bind (·.zero)).bind fun z=>z.cells.toList.mapM mP
def fJ (P:Program) (t:TypeId):Option (TypeId × Nat) :=
 match P.underlying t with
 | some (.slice e)=>match P.info? e with
   | some i=>match i.zero with
     | some z=>if z.cells.size=i.size/\0 < i.size/\i.bytes <= 32768/\z.cells.all (·.oneCell') then some (e,i.size) else none
     | none=>none
   | none=>none
 | _=>none
def zk (P:Program) (s:TypeId) (f:Nat):Option Nat :=
 match P.underlying s with
 | some (.struct fields)=>match fields[f]? with
   | some x=>if P.cellsOf x.type ≠ 0 then some x.offset else none
   | none=>none
 | _=>none
def AW (P:Program) (t:TypeId):Option (List (Nat × Nat)) :=
 match P.underlying t with
 | some (.struct fields)=>if fields.all (fun f=>(P.info? f.type).isSome) then some (fields.toList.map fun f=>(f.offset,P.cellsOf f.type)) else none
 | _=>none
def fw (P:Program) (f:FuncId):Bool :=
 match P.funcs[f]? with
 | some fn=>fn.body.isSome && !(fn.name == "runtime.NumGoroutine")
 | none=>false
structure cS where
 P:Program
 zn:Nat->AV
 fixed:Nat->Option (Array Value):=fun _=>none
def iU (C:cS) (g:Gh):Prop:=(∀ i,ay g (C.zn i) (.pointer (some ⟨i,0,none⟩)))/\∀ i cs,C.fixed i=some cs->i < g.base/\∃ t fr,g.w0.heap[i]?=some (.cells cs t fr)
theorem iU.mono {C:cS} {g g':Gh} (h:iU C g) (hl:Gh.Le g g'):iU C g':=⟨fun i=>(h.1 i).mono hl,fun i cs hi=>by rw [hl.base,hl.w0]; exact h.2 i cs hi⟩
structure Env where
 get:Nat->AV
def Env.put (ρ:Env) (d:Nat) (v:AV):Env:=⟨fun t=>if t=d then v else ρ.get t⟩
def Env.eN (ρ:Env):Option Nat->AV->Env
 | some d,v=>ρ.put d v
 | none,_=>ρ
def Env.ev (C:cS) (ρ:Env):Operand->AV
 | .tmp t=>ρ.get t
 | .const v=>Fg v
 | .global g=>C.zn g
 | .func f=>.func (.func f) [] []
def ia (g:Gh) (ρ:Env) (tmps:Array Value):Prop:=∀ t,ay g (ρ.get t) (tmps.getD t undef)
theorem ia.mono {g g':Gh} (h:Gh.Le g g') {ρ:Env} {tmps:Array Value} (hr:ia g ρ tmps):ia g' ρ tmps:=fun t=>(hr t).mono h
theorem ia.put {g:Gh} {ρ:Env} {tmps:Array Value} (hr:ia g ρ tmps) {d:Nat} {x:AV} {v:Value} (hd:d < tmps.size) (hx:ay g x v):ia g (ρ.put d x) (tmps.setIfInBounds d v):=fun t=>by
 simp only [Env.put]
 by_cases ht:t=d
 . subst ht
   rw [if_pos rfl]
   simpa [Array.getD,hd] using hx
 . rw [if_neg ht]
   have:=hr t
   simp only [Array.getD_eq_getD_getElem?] at this ⊢
   rw [Array.getElem?_setIfInBounds_ne (Ne.symm ht)]
   exact this
theorem zN {g:Gh} {v:Value} {x:AV} (h:mP v=some x):ay g x v/\v.oneCell'=true:=by
 unfold mP at h
 split at h <;> first
  | (cases h; simp [ay,Value.oneCell']; done)
  | cases h
theorem ff {g:Gh}:∀ {vs:List Value} {l:List AV},vs.mapM mP=some l->aD g l vs/\∀ u ∈ vs,u.oneCell'=true
 | [],l,h=>by
   simp at h; subst h; simp [aD]
 | v::vs,l,h=>by
   simp only [List.mapM_cons,bind,Option.bind_eq_some_iff,pure,ji] at h
   obtain ⟨x,hx,l',tC,rfl⟩:=h
   obtain ⟨h1,h2⟩:=zN (g:=g) hx
   obtain ⟨h3,h4⟩:=ff (g:=g) tC
   refine ⟨by simp only [aD]; exact ⟨v,vs,rfl,h1,h3⟩,fun u hu=>?_⟩
   simp only [cJ] at hu
   rcases hu with rfl | hu
   . exact h2
   . exact h4 u hu
theorem N8 {g:Gh} (v:Value):ay g ((mP v).getD .any) v:=by
 cases h:mP v with
 | none=>simp only [Option.getD_none,ay]
 | some x=>exact (zN h).1
theorem Ee {g:Gh} (v:Value):ay g (Fg v) v:=by
 cases v with
 | agg cs =>
   simp only [Fg]
   cases h:cs.toList.mapM mP with
   | none=>simp only [TD,ay]
   | some l=>simp only [TD,ay]; exact ⟨cs.toList,by simp,(ff (g:=g) h).2,(ff h).1⟩
 | func fn f c =>
   simp only [Fg]
   split
   . rename_i h
     simp only [bS,Array.isEmpty_iff] at h
     obtain ⟨rfl,rfl⟩:=h
     simp only [ay]; exact ⟨[],[],rfl,by simp [aD],by simp [aD]⟩
   . simp only [ay]
 | tuple vs =>
   simp only [Fg]
   split
   . rename_i h
     simp only [Array.isEmpty_iff] at h
     subst h
     simp only [ay]; exact ⟨[],rfl,by simp [aD]⟩
   . simp only [ay]
 | _=>simp only [Fg]; exact N8 _
theorem ui {C:cS} {g:Gh} (hG:iU C g) {ρ:Env} {a:Act} (hr:ia g ρ a.tmps) (x:Operand):ay g (ρ.ev C x) (a.eval x):=by
 cases x with
 | tmp t=>exact hr t
 | const v=>exact Ee v
 | global i=>exact hG.1 i
 | func f=>simp only [Env.ev,Act.eval,ay]; exact ⟨[],[],rfl,by simp [aD],by simp [aD]⟩
inductive NV where
 | box
 | tok (n:Nat) (l:List AV)
 | ms (n jA:Nat) (e:TypeId)
 | mp
 | it
def NV.at (b:Nat):NV->AV
 | .box=>.box b 0
 | .tok n l=>.vec n (.own b) l
 | .ms n jA e=>.ms b 0 n jA e
 | .mp=>.mp b
 | .it=>.it b
inductive aC where
 | val (v:AV)
 | jd (v:AV) (b:Nat) (x:Live)
 | new (k:NV) (del:Option Nat) (x:Live)
 | mj (b:Nat) (l:List (AV × Live))
 | enter (f:FuncId) (args:List AV)
 | yield (l:Nat) (args:List AV)
 | panic (v:AV)
 | cond (p:Prop) [d:Decidable p] (r:aC)
 | bad
abbrev aC.db (l:List AV):aC:=.new .box none (.box l)
abbrev aC.oE (n:Nat) (l:List AV) (del:Option Nat) (t:Tok):aC:=.new (.tok n l) del (.tok t)
abbrev aC.pF (n jA:Nat) (e:TypeId) (del:Option Nat) (l:List AV):aC:=.new (.ms n jA e) del (.box l)
abbrev aC.vu:aC:=.new .mp none (.mp [] [])
def St.th (U:St):Option Nat->St
 | some b=>U.del b
 | none=>U
def aC.Fits (C:cS) (g:Gh) (U:St):aC->Result Next->Prop
 | .val v,res=>∃ u w' g',(res=.ok (.value u) w'\/(res=.ok .skip w'/\u=undef))/\Gh.Le g g'/\bo g' U w'/\ay g' v u
 | .jd v b x,res=>∃ u w' g',(res=.ok (.value u) w'\/(res=.ok .skip w'/\u=undef))/\Gh.Le g g'/\bo g' (U.set b x) w'/\ay g' v u
 | .new k del x,res=>∃ u w' g' b,res=.ok (.value u) w'/\(U.th del).dA b/\Gh.Le g g'/\bo g' ((U.th del).new b x) w'/\ay g' (k.at b) u
 | .mj b l,res=>∃ u w' g' v x,res=.ok (.value u) w'/\(v,x) ∈ l/\Gh.Le g g'/\bo g' (U.set b x) w'/\ay g' v u
 | .enter f args,res=>∃ vs w',res=.ok (.enter f (List.toArray vs)) w'/\bo g U w'/\aD g args vs
 | .yield o args,res=>∃ vs x w w',g.place o=some x/\res=(Instr.yield x.aF (List.toArray vs)).run C.P w/\w'=w/\bo g U w/\aD g args vs
 | .panic v,res=>∃ u w',res=.halt (.panic u) w'/\bo g U w'/\ay g v u
 | @aC.cond p _ r,res=>p->r.Fits C g U res
 | .bad,_=>True
theorem a8 {C:cS} {g:Gh} {U:St} {w:World} {v:AV} {u:Value} (h:bo g U w) (hr:ay g v u):aC.Fits C g U (.val v) (.ok (.value u) w) :=
 ⟨u,w,g,.inl rfl,Gh.Le.refl g,h,hr⟩
def wm (n:Int):Prop:=-9223372036854775808 <= n/\n <= 9223372036854775807
instance (n:Int):Decidable (wm n):=inferInstanceAs (Decidable (_/\_))
theorem yI {n:Int} (h:wm n):IntKind.i64.wrap n=n:=by
 obtain ⟨h1,h2⟩:=h
 have e:IntKind.i64.wrap n=if n % 18446744073709551616 >= 9223372036854775808 then n % 18446744073709551616 - 18446744073709551616 else n % 18446744073709551616:=by
  simp [IntKind.wrap,IntKind.bits,IntKind.signed]
 rw [e]
 split <;> omega
def wW (P:Program) (t:TypeId):Bool:=match P.underlying t with | some .bool=>true | _=>false
def lK (P:Program) (t:TypeId):Bool:=match P.underlying t with | some (.interface _)=>true | _=>false
def nA (P:Program) (t:TypeId):Bool:=match P.underlying t with | some (.pointer _)=>true | _=>false
def qz (P:Program) (t:TypeId):Bool:=match P.underlying t with | some (.slice _)=>true | _=>false
def jq (k:IntKind) (n:Int):aC :=
 match k with
 | .i64=>.cond (wm n) (.val (.int .i64 n))
 | k=>.val (.int k (k.wrap n))
inductive FK where
 | i
 | s
 | b
def pZ:List FK->List AV->List AV->Option Bool
 | [],[],[]=>some true
 | .i::ks,.int k a::xs,.int k' b::ys=>if k=k' then (pZ ks xs ys).map fun r=>(a == b) && r else none
 | .s::ks,.str a::xs,.str b::ys=>(pZ ks xs ys).map fun r=>(a == b) && r
 | .b::ks,.bool a::xs,.bool b::ys=>(pZ ks xs ys).map fun r=>(a == b) && r
 | _,_,_=>none
def Pd (P:Program) (f:Field) (i:Nat):Option FK :=
 if f.offset=i/\f.name ≠ "_" then
  match P.underlying f.type with
  | some .bool=>some .b
  | some (.int _)=>some .i
  | some .string=>some .s
  | _=>none
 else none
def wA (P:Program):List Field->Nat->Option (List FK)
 | [],_=>some []
 | f::fs,i=>match Pd P f i,wA P fs (i+1) with
   | some k,some ks=>some (k::ks)
   | _,_=>none
def MX (P:Program) (t:TypeId):Option (List FK) :=
 match P.underlying t with
 | some (.struct fields)=>if P.stoodInHeld t=false/\P.eqGuardType P.depth t=false then wA P fields.toList 0 else none
 | _=>none
def K9 (P:Program) (t:TypeId) (a b:List AV):Option Bool :=
 match MX P t with
 | some ks=>pZ ks a b
 | none=>none
def yC (f:Bool->AV):Option Bool->aC
 | some r=>.val (f r)
 | none=>.bad
def MA (P:Program) (op:BinOp) (t:TypeId) (x y:AV):aC :=
 match op,x,y with
 | .add,.int k a,.int k' b=>if k=k' then jq k (a+b) else .bad
 | .sub,.int k a,.int k' b=>if k=k' then jq k (a - b) else .bad
 | .mul,.int k a,.int k' b=>if k=k' then jq k (a * b) else .bad
 | .quo,.int k a,.int k' b=>if k=k' then .cond (b ≠ 0) (jq k (a.tdiv b)) else .bad
 | .rem,.int k a,.int k' b=>if k=k' then .cond (b ≠ 0) (.val (.int k (a.tmod b))) else .bad
 | .and,.int k a,.int k' b=>if k=k' then .val (.int k (k.wrap (BitVec.ofInt k.bits a &&& BitVec.ofInt k.bits b).toNat)) else .bad
 | .or,.int k a,.int k' b=>if k=k' then .val (.int k (k.wrap (BitVec.ofInt k.bits a ||| BitVec.ofInt k.bits b).toNat)) else .bad
 | .eql,.int k a,.int k' b=>if k=k' then .val (.bool (a == b)) else .bad
 | .neq,.int k a,.int k' b=>if k=k' then .val (.bool (a != b)) else .bad
 | .lss,.int k a,.int k' b=>if k=k' then .val (.bool (decide (a < b))) else .bad
 | .leq,.int k a,.int k' b=>if k=k' then .val (.bool (decide (a <= b))) else .bad
 | .gtr,.int k a,.int k' b=>if k=k' then .val (.bool (decide (a > b))) else .bad
 | .geq,.int k a,.int k' b=>if k=k' then .val (.bool (decide (a >= b))) else .bad
 | .eql,.str a,.str b=>.val (.bool (a == b))
 | .neq,.str a,.str b=>.val (.bool (a != b))
 | .add,.str a,.str b=>.cond (a.length+b.length <= 4294967296) (.val (.str (a++b)))
 | .eql,.bool a,.bool b=>if wW P t=true then .val (.bool (a == b)) else .bad
 | .neq,.bool a,.bool b=>if wW P t=true then .val (.bool (a != b)) else .bad
 | .eql,.agg a,.agg b=>yC .bool (K9 P t a b)
 | .neq,.agg a,.agg b=>yC (fun r=>.bool (!r)) (K9 P t a b)
 | .eql,.iface _ _,.dq=>if lK P t=true then .val (.bool false) else .bad
 | .neq,.iface _ _,.dq=>if lK P t=true then .val (.bool true) else .bad
 | .eql,.aW,.aW=>if nA P t=true then .val (.bool true) else .bad
 | .eql,.box _ _,.aW=>if nA P t=true then .val (.bool false) else .bad
 | .neq,.aW,.aW=>if nA P t=true then .val (.bool false) else .bad
 | .neq,.box _ _,.aW=>if nA P t=true then .val (.bool true) else .bad
 | .eql,.cQ _,.aW=>if nA P t=true then .val (.bool false) else .bad
 | .neq,.cQ _,.aW=>if nA P t=true then .val (.bool true) else .bad
 | .eql,.aq,.aq=>if qz P t=true then .val (.bool true) else .bad
 | .eql,.vec _ _ _,.aq=>if qz P t=true then .val (.bool false) else .bad
 | .eql,.ms _ _ _ _ _,.aq=>if qz P t=true then .val (.bool false) else .bad
 | _,_,_=>.bad
def isLit:Operand->Bool
 | .const _=>true
 | _=>false
def Hu (P:Program) (op:BinOp) (t:TypeId) (lit:Bool) (x y:AV):aC :=
 match op,x,y with
 | .eql,.dq,.dq=>if lK P t=true/\lit=true then .val (.bool true) else .bad
 | .neq,.dq,.dq=>if lK P t=true/\lit=true then .val (.bool false) else .bad
 | op,x,y=>MA P op t x y
end Go.Rip
namespace Go.Rip
open Go.RowKit
def AV.scalar:AV->Bool
 | .agg _ | .aH _ | .any=>false
 | _=>true
def ax:AV->List AV
 | .agg l=>l
 | v=>[v]
theorem EL {g:Gh} {x:AV} {v:Value} (h:ay g x v) (hs:x.scalar=true):v.oneCell'=true:=by
 cases x <;> simp only [AV.scalar,bQ] at hs <;> simp only [ay] at h
 all_goals first
  | (subst h; rfl)
  | (obtain ⟨_,_,rfl⟩:=h; rfl)
  | (obtain ⟨_,_,_,rfl,_⟩:=h; rfl)
  | (obtain ⟨_,_,_,_,rfl,_⟩:=h; rfl)
  | (obtain ⟨_,_,_,rfl,_⟩:=h; rfl)
  | (obtain ⟨_,_,rfl,_⟩:=h; rfl)
  | (obtain ⟨_,rfl,_⟩:=h; rfl)
  | (obtain ⟨_,_,_,_,rfl,_⟩:=h; rfl)
def AV.dh:AV->Bool
 | .aH _ | .any=>false
 | _=>true
theorem zc {g:Gh} {x:AV} {v:Value} (h:ay g x v) (hs:x.dh=true):aD g (ax x) v.cells.toList/\∀ u ∈ v.cells.toList,u.oneCell'=true:=by
 by_cases ha:∃ l,x=.agg l
 . obtain ⟨l,rfl⟩:=ha
   simp only [ay] at h
   obtain ⟨vs,rfl,h1,h2⟩:=h
   exact ⟨by simpa [ax,Value.cells] using h2,by simpa [Value.cells] using h1⟩
 . have WO:x.scalar=true:=by cases x <;> simp_all [AV.dh,AV.scalar]
   have h1:=EL h WO
   have hc:ax x=[x]:=by cases x <;> simp_all [ax]
   have hv:v.cells=#[v]:=by cases v <;> simp_all [Value.cells,Value.oneCell']
   rw [hc,hv]
   exact ⟨by simp only [aD]; exact ⟨v,[],rfl,h,rfl⟩,by simpa using h1⟩
def nr (U:St):AV->Option (List AV)
 | .box b off=>(U.box b).map (·.drop off)
 | .cQ l=>some l
 | _=>none
theorem sH {g:Gh} {U:St} {w:World} (h:bo g U w) {p:AV} {v:Value} {l:List AV} (hp:ay g p v) (hl:nr U p=some l) :
 ∃ a vs,v=.pointer (some a)/\a.spot=none/\aD g l vs/\∀ j u,vs[j]?=some u->w.cell? (a.add j)=some u/\u.oneCell'=true:=by
 have lH:∀ aF off j,(⟨aF,off,none⟩:Addr).add j=⟨aF,off+j,none⟩:=fun aF off j=>by unfold Addr.add; split <;> simp_all
 cases p <;> simp only [nr,reduceCtorEq] at hl
 . rename_i b off
   cases hb:U.box b with
   | none=>simp [hb] at hl
   | some l0 =>
     simp [hb] at hl
     subst hl
     simp only [ay] at hp
     obtain ⟨x,hx,rfl⟩:=hp
     obtain ⟨x',cur,vs,rest,k1,k2,k3,k4,k5,k6,k7,k8⟩:=h.box b l0 hb
     rw [hx] at k1; cases k1
     refine ⟨⟨x.aF,off,none⟩,vs.drop off,rfl,rfl,k6.drop off,fun j u hu=>?_⟩
     rw [lH,cell_of_row _ _ _ cur x.e (0,0) k3]
     rw [List.getElem?_drop] at hu
     have aQ:off+j < vs.length:=by
      rcases kO (off+j) vs.length with h | h
      . exact h
      . simp [ym h] at hu
     have:cur[off+j]?=some u:=by rw [<- lO,k5,wc aQ]; exact hu
     exact ⟨this,k7 u (gr (by rw [lO]; exact this))⟩
 . cases hl
   simp only [ay] at hp
   obtain ⟨aF,off,vs,rfl,hi,hr⟩:=hp
   exact ⟨⟨aF,off,none⟩,vs,rfl,rfl,hr,fun j u hu=>by rw [lH]; exact h.ct _ _ _ (hi j u hu)⟩
def jf:List AV->aC
 | x::_=>.val x
 | []=>.bad
def vj (P:Program) (t:TypeId) (p:AV) (U:St):aC :=
 match oY P t,nr U p with
 | some (true,sz),some l=>.cond (sz <= l.length) (.val (.agg (l.take sz)))
 | some (false,_),some l=>jf l
 | _,_=>.bad
theorem pz {P:Program} {t:TypeId} {b:Bool} {sz:Nat} (h:oY P t=some (b,sz)) :
 ∃ i d,P.info? t=some i/\P.underlying t=some d/\D7 d=b/\i.size=sz:=by
 unfold oY at h
 split at h
 . rename_i i d hi hd
   simp only [ji,gL] at h
   exact ⟨i,d,hi,hd,h.1,h.2⟩
 . cases h
theorem mz {P:Program} {t:TypeId} {d:TypeDesc} (h:P.underlying t=some d) (w:World):(isAgg t).run P w=.ok (D7 d) w:=by
 simp only [isAgg,ck,run_underlying h,cK]
 cases d <;> rfl
theorem fg {P:Program} {t:TypeId} {i:TypeInfo} (h:P.info? t=some i) (w:World):(sizeOf t).run P w=.ok i.size w:=by
 simp [sizeOf,typeInfo,h]
section
variable {C:cS} {g:Gh} {U:St} {w:World}
theorem NH (h:bo g U w) {t:TypeId} {p:AV} {v:Value} (hp:ay g p v):aC.Fits C g U (vj C.P t p U) ((do let x <- Instr.loadAt t v; pure (Next.value x):Sem Next).run C.P w):=by
 unfold vj
 split
 . rename_i b sz l hv hl
   obtain ⟨i,d,hi,hd,hb,fh⟩:=pz hv
   obtain ⟨a,vs,rfl,ha,hr,hc⟩:=sH h hp hl
   intro hle
   have hlen:=hr.length
   have ix:(loadCells a (vs.take sz).length).run C.P w=.ok (vs.take sz).toArray w :=
    run_loadCells_list (P:=C.P) w a (vs.take sz) fun j u hu=>by
     rw [List.getElem?_take] at hu
     split at hu
     . exact (hc j u hu).1
     . cases hu
   have rT:(vs.take sz).length=sz:=by simp; omega
   rw [rT] at ix
   simp only [Instr.loadAt,Instr.sureAddr,loadVar,ck,cP,cK,mz hd,hb,if_true,fg hi,fh,ix,fE]
   have Pn:∀ u ∈ vs.take sz,u.oneCell'=true:=fun u hu=>by
    obtain ⟨j,hj⟩:=List.getElem?_of_mem hu
    rw [List.getElem?_take] at hj
    split at hj
    . exact (hc j u hj).2
    . cases hj
   exact a8 h (by simp only [ay]; exact ⟨_,rfl,Pn,hr.take sz⟩)
 . rename_i b sz l hv hl
   obtain ⟨i,d,hi,hd,hb,fh⟩:=pz hv
   obtain ⟨a,vs,rfl,ha,hr,hc⟩:=sH h hp hl
   cases l with
   | nil=>trivial
   | cons x xs =>
     simp only [aD] at hr
     obtain ⟨u,us,rfl,h1,h2⟩:=hr
     have:=(hc 0 u rfl).1
     have h0:a.add 0=a:=by simp [Addr.add]
     rw [h0] at this
     simp only [Instr.loadAt,Instr.sureAddr,loadVar,ck,cP,cK,mz hd,hb,bQ,if_false,run_load,this,fE]
     exact a8 h h1
 . trivial
def aA (l:List AV) (off:Nat) (cs:List AV):List AV:=l.take off++cs++l.drop (off+cs.length)
def JN (P:Program) (t:TypeId) (p v:AV) (U:St):aC :=
 match oY P t,p with
 | some (_,sz),.box b off=>match U.box b with
   | some l=>.cond (v.dh=true/\(ax v).length=sz/\off+sz <= l.length) (.jd (.aH []) b (.box (aA l off (ax v))))
   | none=>.bad
 | _,_=>.bad
theorem xi (h:bo g U w) {b off:Nat} {l:List AV} {x:Place} (hb:U.box b=some l) (hx:g.box b=some x) {cs:List AV} {us:List Value} (hr:aD g cs us) (h1:∀ u ∈ us,u.oneCell'=true)
 (pR:off+cs.length <= l.length):∃ w',(storeCells ⟨x.aF,off,none⟩ us).run C.P w=.ok () w'/\bo g (U.bZ b (aA l off cs)) w':=by
 obtain ⟨x',cur,vs,rest,k1,k2,k3,k4,k5,k6,k7,k8⟩:=h.box b l hb
 rw [hx] at k1; cases k1
 have Ik:=hr.length
 have rT:=k6.length
 have fh:cur.size=vs.length+rest.length:=by rw [<- tp,k5,cM]
 have ix:=run_storeCells_at C.P x.aF off x.e us 0 cur w k3 (by omega) h1
 simp only [Nat.add_zero] at ix
 refine ⟨_,ix,?_⟩
 have e:cur.toList.take off++us++cur.toList.drop (off+us.length)=(vs.take off++us++vs.drop (off+us.length))++rest:=by
  rw [k5,List.take_append_of_le_length (by omega),List.drop_append_of_le_length (by omega)]
  simp
 refine h.setRow hb hx _ (vs.take off++us++vs.drop (off+us.length)) rest ?_ (by simpa using e) ?_ ?_
 . rw [<- tp]
   have:=congrArg List.length e
   simp only [cM,List.length_take,List.length_drop] at this
   simp only [cM,List.length_take,List.length_drop,tp] at this ⊢
   omega
 . unfold aA
   rw [Ik]
   exact ((k6.take off).append hr).append (k6.drop _)
 . intro u hu
   simp only [gu] at hu
   rcases hu with (hu | hu) | hu
   . exact k7 u (List.mem_of_mem_take hu)
   . exact h1 u hu
   . exact k7 u (List.mem_of_mem_drop hu)
theorem KO (h:bo g U w) {t:TypeId} {p x:AV} {v u:Value} (hp:ay g p v) (hx:ay g x u):aC.Fits C g U (JN C.P t p x U) ((do Instr.storeAt t v u; pure Next.skip:Sem Next).run C.P w):=by
 unfold JN
 split
 . rename_i bb sz b off hv
   split
   . rename_i l hb
     rintro ⟨h1,h2,h3⟩
     obtain ⟨i,d,hi,hd,_,fh⟩:=pz hv
     obtain ⟨wI,Bi⟩:=zc hx h1
     simp only [ay] at hp
     obtain ⟨y,hy,rfl⟩:=hp
     obtain ⟨w',ix,hs⟩:=xi (C:=C) h hb hy wI Bi (by rw [h2]; exact h3)
     have hlen:u.cells.size=sz:=by rw [<- tp,wI.length]; exact h2
     simp only [Instr.storeAt,Instr.sureAddr,storeVar,ck,cP,cK,fg hi,fh,hlen,ne_eq,not_true_eq_false,if_false,fE,ix]
     exact ⟨undef,w',g,.inr ⟨rfl,rfl⟩,Gh.Le.refl g,hs,by simp only [ay]; exact ⟨[],rfl,by simp [aD]⟩⟩
   . trivial
 . trivial
def Hq (t:TypeId):List AV->aC
 | [.aW,.aq]=>.new .box none (.tG t [.aW,.aq])
 | l=>.db l
def Hp (P:Program) (t:TypeId):aC :=
 match qt P t with
 | some l=>Hq t l
 | none=>.bad
theorem oy {P:Program} {t:TypeId} {l:List AV} (hz:qt P t=some l):∃ i z,P.info? t=some i/\i.zero=some z/\z.cells.toList.mapM mP=some l:=by
 unfold qt at hz
 cases hi:P.info? t with
 | none=>simp [hi] at hz
 | some i =>
   cases uz:i.zero with
   | none=>simp [hi,uz] at hz
   | some z=>simp [hi,uz] at hz; exact ⟨i,z,rfl,uz,hz⟩
theorem gX {P:Program} {t:TypeId} {i:TypeInfo} {z:Value} (hi:P.info? t=some i) (hz:i.zero=some z) (w:World):(zeroValue t).run P w=.ok z w:=by
 simp [zeroValue,typeInfo,hi,hz]
theorem BB (h:bo g U w) (e:TypeId) {l:List AV} {cur:Array Value} (hl:aD g l cur.toList) (h1:∀ u ∈ cur.toList,u.oneCell'=true) :
 aC.Fits C g U (.db l) (.ok (.value (.pointer (some ⟨w.heap.size,0,none⟩))) (w.alloc (.cells cur e))):=by
 obtain ⟨b,g',hb,hle,hx,hs⟩:=h.db e cur cur.toList [] l (by simp) hl h1
 exact ⟨_,_,g',b,rfl,hb,hle,hs,by simp only [NV.at,ay]; exact ⟨_,hx,rfl⟩⟩
theorem J3 (h:bo g U w) {t:TypeId}:aC.Fits C g U (Hp C.P t) ((do let x <- Instr.alloc t true (.tuple #[]); pure (Next.value x):Sem Next).run C.P w):=by
 unfold Hp
 split
 . rename_i l hz
   obtain ⟨i,z,hi,uz,hm⟩:=oy hz
   obtain ⟨h1,h2⟩:=ff (g:=g) hm
   simp only [Instr.alloc,newVar,newRow,ck,cP,cK,gX hi uz,run_newObj]
   unfold Hq
   split
   . have hlen:=h1.length
     obtain ⟨b,g',hb,hle,hx,hs⟩:=h.uE (.cells z.cells t) t z.cells.size (.tG t [.aW,.aq]) fun g' hle hi hm=>⟨rfl,by simpa using hlen,z.cells,z.cells.toList,[],heap_alloc_new w _,rfl,by simp,h1.mono hle,h2,hi⟩
     exact ⟨_,_,g',b,rfl,hb,hle,hs,by simp only [NV.at,ay]; exact ⟨_,hx,rfl⟩⟩
   . exact BB h t h1 h2
 . trivial
def fZ (v:AV):aC:=.cond (v.dh=true) (.db (ax v))
theorem OL (h:bo g U w) {t:TypeId} {x:AV} {u:Value} (hx:ay g x u):aC.Fits C g U (fZ x) ((do let y <- Instr.box t u; pure (Next.value y):Sem Next).run C.P w):=by
 intro hl
 obtain ⟨h1,h2⟩:=zc hx hl
 simp only [Instr.box,newVar,newRow,ck,cP,cK,run_newObj]
 exact BB h t h1 h2
def aV (x:AV):aC :=
 match x with
 | .box _ _ | .cQ _ | .func (.func _) _ _=>.val x
 | _=>.bad
def xH (P:Program) (s:TypeId) (p:AV) (f:Nat):aC :=
 match zk P s f,p with
 | some o,.box b off=>.val (.box b (off+o))
 | some o,.cQ l=>.val (.cQ (l.drop o))
 | _,_=>.bad
theorem Kj {P:Program} {s:TypeId} {f o:Nat} (h:zk P s f=some o):∃ fs x,P.underlying s=some (.struct fs)/\fs[f]?=some x/\P.cellsOf x.type ≠ 0/\x.offset=o:=by
 unfold zk at h
 split at h
 . rename_i fs hu
   split at h
   . rename_i x hx
     split at h
     . rename_i hc; cases h; exact ⟨fs,x,hu,hx,hc,rfl⟩
     . cases h
   . cases h
 . cases h
theorem xO {aF off n:Nat} {vs:List Value} (h:mh g aF off vs):mh g aF (off+n) (vs.drop n):=fun i u hu=>by
 rw [List.getElem?_drop] at hu
 have:=h (n+i) u hu
 rwa [Nat.add_assoc]
theorem CN (h:bo g U w) {s f:Nat} {p:AV} {v:Value} (hp:ay g p v):aC.Fits C g U (xH C.P s p f) ((do let x <- Instr.fieldAt s v f; pure (Next.value x):Sem Next).run C.P w):=by
 have lH:∀ aF off j,(⟨aF,off,none⟩:Addr).add j=⟨aF,off+j,none⟩:=fun aF off j=>by unfold Addr.add; split <;> simp_all
 have key:∀ (o:Nat) (aF off:Nat),zk C.P s f=some o->v=.pointer (some ⟨aF,off,none⟩) ->
  ((do let x <- Instr.fieldAt s v f; pure (Next.value x):Sem Next).run C.P w)=.ok (.value (.pointer (some ⟨aF,off+o,none⟩))) w:=fun o aF off ho hv=>by
  obtain ⟨fs,x,hu,hx,hc,rfl⟩:=Kj ho
  subst hv
  obtain ⟨i,hi,hic⟩:∃ i,C.P.info? x.type=some i/\i.size=C.P.cellsOf x.type:=by
   cases hi:C.P.info? x.type with
   | none=>simp [Program.cellsOf,hi] at hc
   | some i=>exact ⟨i,rfl,by simp [Program.cellsOf,hi]⟩
  simp only [Instr.fieldAt,ck,cP,cK,run_underlying hu,hx,Instr.sureAddr,fieldPlace,fg hi,hic,if_neg hc,fE,lH]
 unfold xH
 split
 . rename_i o b off ho
   simp only [ay] at hp
   obtain ⟨x,hx,hv⟩:=hp
   rw [key o x.aF off ho hv]
   exact a8 h (by simp only [ay]; exact ⟨x,hx,rfl⟩)
 . rename_i o l ho
   simp only [ay] at hp
   obtain ⟨aF,off,vs,hv,hi,hr⟩:=hp
   rw [key o aF off ho hv]
   exact a8 h (by simp only [ay]; exact ⟨aF,off+o,vs.drop o,rfl,xO hi,hr.drop o⟩)
 . trivial
theorem jl {P:Program} {t e:TypeId} {sz:Nat} (h:fJ P t=some (e,sz)) :
 ∃ i z,P.underlying t=some (.slice e)/\P.info? e=some i/\i.zero=some z/\z.cells.size=sz/\i.size=sz/\0 < sz/\i.bytes <= 32768/\(∀ u ∈ z.cells.toList,u.oneCell'=true):=by
 unfold fJ at h
 split at h
 . rename_i e' hu
   split at h
   . rename_i i hi
     split at h
     . rename_i z hz
       split at h
       . rename_i hc
         simp only [ji,gL] at h
         obtain ⟨rfl,rfl⟩:=h
         refine ⟨i,z,hu,hi,hz,hc.1,rfl,hc.2.1,hc.2.2.1,fun u hu=>?_⟩
         have:=hc.2.2.2
         rw [Array.all_eq_true_iff_forall_mem] at this
         exact this u (by simpa using hu)
       . cases h
     . cases h
   . cases h
 . cases h
def vO (P:Program) (t:TypeId):Option (Nat × TypeId × Nat) :=
 match P.underlying t with
 | some (.array n e)=>match P.info? e with
   | some i=>some (n,e,i.size)
   | none=>none
 | _=>none
theorem uX {P:Program} {t e:TypeId} {n sz:Nat} (h:vO P t=some (n,e,sz)):∃ i,P.underlying t=some (.array n e)/\P.info? e=some i/\i.size=sz:=by
 unfold vO at h
 split at h
 . rename_i n' e' hu
   split at h
   . rename_i i hi
     simp only [ji,gL] at h
     obtain ⟨rfl,rfl,rfl⟩:=h
     exact ⟨i,hu,hi,rfl⟩
   . cases h
 . cases h
def Oz (P:Program) (t:TypeId) (x i:AV):aC :=
 match vO P t,x,i with
 | some (n,_,sz),.cQ l,.int _ j=>.cond (0 <= j/\j < n) (.val (.cQ (l.drop (j.toNat * sz))))
 | some (n,_,sz),.box b off,.int _ j=>.cond (0 <= j/\j < n) (.val (.box b (off+j.toNat * sz)))
 | _,_,_=>.bad
def xP (P:Program) (t:TypeId) (x i:AV):aC :=
 match fJ P t,x,i with
 | none,x,i=>Oz P t x i
 | some (_,sz),.vec n _ l,.int _ j=>.cond (0 <= j/\j < n) (.val (.cQ (l.drop (j.toNat * sz))))
 | some (_,sz),.ms b off n jA _,.int _ j=>.cond (0 <= j/\j < n/\jA=sz) (.val (.box b (off+j.toNat * sz)))
 | _,_,_=>.bad
theorem Da (h:bo g U w) {t:TypeId} {x y:AV} {v u:Value} (hx:ay g x v) (hy:ay g y u):aC.Fits C g U (xP C.P t x y) ((do let x <- Instr.indexAt t v u; pure (Next.value x):Sem Next).run C.P w):=by
 have lH:∀ aF off j,(⟨aF,off,none⟩:Addr).add j=⟨aF,off+j,none⟩:=fun aF off j=>by unfold Addr.add; split <;> simp_all
 have key:∀ (e:TypeId) (sz:Nat) (aF off n c:Nat) (k:IntKind) (j:Int),fJ C.P t=some (e,sz)->v=.slice (some ⟨aF,off,none⟩) n c->u=.int k j->0 <= j->j < n ->
  ((do let x <- Instr.indexAt t v u; pure (Next.value x):Sem Next).run C.P w)=.ok (.value (.pointer (some ⟨aF,off+j.toNat * sz,none⟩))) w:=fun e sz aF off n c k j ho hv hu h0 h1=>by
  obtain ⟨i,z,pO,hi,hz,_,fh,_⟩:=jl ho
  subst hv hu
  simp only [Instr.indexAt,asIntOf,ck,cP,cK,run_underlying pO,h0,h1,and_self,if_true,fE,fg hi,fh,lH]
 unfold xP
 split
 . unfold Oz
   split
   . rename_i n e sz l k j ha
     rintro ⟨h0,h1⟩
     obtain ⟨i,pO,hi,fh⟩:=uX ha
     simp only [ay] at hx hy
     obtain ⟨aF,off,vs,rfl,lJ,hr⟩:=hx
     subst hy
     simp only [Instr.indexAt,asIntOf,ck,cP,cK,run_underlying pO,Instr.sureAddr,h0,h1,and_self,if_true,fE,fg hi,fh,lH]
     exact a8 h (by simp only [ay]; exact ⟨aF,_,_,rfl,xO lJ,hr.drop _⟩)
   . rename_i n e sz b off k j ha
     rintro ⟨h0,h1⟩
     obtain ⟨i,pO,hi,fh⟩:=uX ha
     simp only [ay] at hx hy
     obtain ⟨x,hb,rfl⟩:=hx
     subst hy
     simp only [Instr.indexAt,asIntOf,ck,cP,cK,run_underlying pO,Instr.sureAddr,h0,h1,and_self,if_true,fE,fg hi,fh,lH]
     exact a8 h (by simp only [ay]; exact ⟨x,hb,rfl⟩)
   . trivial
 . rename_i e sz n cap l k j hs
   rintro ⟨h0,h1⟩
   simp only [ay] at hx hy
   obtain ⟨aF,off,c,vs,hv,_,_,_,hi,hr⟩:=hx
   rw [key e sz aF off n c k j hs hv hy h0 h1]
   exact a8 h (by simp only [ay]; exact ⟨aF,_,_,rfl,xO hi,hr.drop _⟩)
 . rename_i e sz b off n jA e' k j hs
   rintro ⟨h0,h1,rfl⟩
   simp only [ay] at hx hy
   obtain ⟨x,c,hb,hv,_⟩:=hx
   rw [key e jA x.aF off n c k j hs hv hy h0 h1]
   exact a8 h (by simp only [ay]; exact ⟨x,hb,rfl⟩)
 . trivial
def oC (P:Program) (t:TypeId):Bool:=match P.underlying t with | some .string=>true | _=>false
def C9 (P:Program) (t:TypeId) (x i:AV):aC :=
 match x,i with
 | .str s,.int _ j=>if oC P t=true then .cond (0 <= j/\j < s.length) (.val (.int .u8 (s.getD j.toNat 0).toNat)) else .bad
 | .agg l,.int _ j=>match vO P t with
   | some (n,e,sz)=>match oY P e with
     | some (false,_)=>.cond (0 <= j/\j < n) (jf (l.drop (j.toNat * sz)))
     | some (true,k)=>.cond (0 <= j/\j < n/\k=sz/\j.toNat * sz+sz <= l.length) (.val (.agg ((l.drop (j.toNat * sz)).take sz)))
     | none=>.bad
   | none=>.bad
 | _,_=>.bad
theorem qd {P:Program} {t:TypeId} (h:oC P t=true):P.underlying t=some .string:=by
 unfold oC at h
 split at h
 . assumption
 . cases h
theorem Ks (h:bo g U w) {t:TypeId} {x y:AV} {v u:Value} (hx:ay g x v) (hy:ay g y u):aC.Fits C g U (C9 C.P t x y) ((do let x <- Instr.index t v u; pure (Next.value x):Sem Next).run C.P w):=by
 unfold C9
 split
 . rename_i s k j
   split
   . rename_i ht
     rintro ⟨h0,h1⟩
     simp only [ay] at hx hy
     subst hx hy
     have hj:j.toNat < s.length:=by omega
     have e:(ByteArray.mk s.toArray)[j.toNat]?=some (s.getD j.toNat 0):=by
      have fh:(ByteArray.mk s.toArray).size=s.length:=by simp [ByteArray.size]
      rw [getElem?_pos _ _ (by rw [fh]; exact hj)]
      simp [nG,pU hj]
      rfl
     simp only [Instr.index,asIntOf,ck,cP,cK,run_underlying (qd ht),h0,if_true,e]
     exact a8 h (by simp only [ay])
   . trivial
 . rename_i l k j
   split
   . rename_i n e sz ha
     obtain ⟨i,pO,hi,fh⟩:=uX ha
     simp only [ay] at hx hy
     subst hy
     obtain ⟨vs,rfl,Pn,hr⟩:=hx
     split
     . rename_i sz' hv
       obtain ⟨i',d,lJ,hd,hb,_⟩:=pz hv
       rintro ⟨h0,h1⟩
       cases hl:l.drop (j.toNat * sz) with
       | nil=>trivial
       | cons z zs =>
         have hz:l[j.toNat * sz]?=some z:=by
          have:=congrArg (fun l=>l[0]?) hl
          simpa using this
         obtain ⟨u,hu2,hzu⟩:=hr.get hz
         have e1:vs.toArray[j.toNat * sz]?=some u:=by simpa using hu2
         simp only [Instr.index,asIntOf,ck,cP,cK,run_underlying pO,h0,h1,and_self,if_true,fE,fg hi,fh,part,mz hd,hb,bQ,if_false,e1]
         exact a8 h hzu
     . rename_i k' hv
       obtain ⟨i',d,lJ,hd,hb,hk⟩:=pz hv
       rw [hi] at lJ; cases lJ
       rintro ⟨h0,h1,rfl,h2⟩
       simp only [Instr.index,asIntOf,ck,cP,cK,run_underlying pO,h0,h1,and_self,if_true,fE,fg hi,fh,part,mz hd,hb]
       refine a8 h ?_
       simp only [ay]
       refine ⟨(vs.drop (j.toNat * k')).take k',?_,fun u hu=>Pn u (List.mem_of_mem_drop (List.mem_of_mem_take hu)),(hr.drop _).take _⟩
       congr 1
       apply Array.ext'
       simp [List.extract_eq_take_drop]
     . trivial
   . trivial
 . trivial
end
end Go.Rip
namespace Go.Rip
open Go.RowKit
section
variable {C:cS} {g:Gh} {U:St} {w:World}
theorem rG {P:Program} {d:Nat}:∀ (fs:List Field) (i:Nat) (ks:List FK) (xs ys:List AV) (us vs:Array Value) (r:Bool),wA P fs i=some ks->pZ ks xs ys=some r ->
 aD g xs (us.toList.drop i)->aD g ys (vs.toList.drop i)->(Op.eqFields (d+1) us vs fs).run P w=.ok r w
 | [],i,ks,xs,ys,us,vs,r,hk,he,_,_=>by
   simp only [wA,ji] at hk
   subst hk
   cases xs <;> cases ys <;> simp only [pZ,reduceCtorEq,ji] at he
   subst he
   simp [Op.eqFields]
 | f::fs,i,ks,xs,ys,us,vs,r,hk,he,hx,hy=>by
   simp only [wA] at hk
   split at hk
   . rename_i k ks' hf Pz
     simp only [ji] at hk
     subst hk
     unfold Pd at hf
     split at hf
     . rename_i hc
       obtain ⟨ho,hn⟩:=hc
       have WK:∀ (us:Array Value) (u:Value),us[i]?=some u->∀ dd,P.underlying f.type=some dd->D7 dd=false->(part f.type us f.offset).run P w=.ok u w:=fun us u hu dd hd ha=>by
        simp only [part,ck,mz hd,cK,ha,bQ,if_false,ho,hu,cP,fE]
       have pD:∀ {xs:List AV} {x:AV} {us:Array Value},aD g (x::xs) (us.toList.drop i)->∃ u,us[i]?=some u/\ay g x u/\aD g xs (us.toList.drop (i+1)):=fun {xs x us} h=>by
        simp only [aD] at h
        obtain ⟨u,rest,e,h1,h2⟩:=h
        refine ⟨u,?_,h1,?_⟩
        . have:=congrArg (fun l=>l[0]?) e
          simpa using this
        . have:=congrArg (List.drop 1) e
          rw [List.drop_drop] at this
          rw [this]; simpa using h2
       have wL:∀ (u v:Value) (q r':Bool) (dd:TypeDesc),us[i]?=some u->vs[i]?=some v->P.underlying f.type=some dd->D7 dd=false->(Op.equalIn (d+1) f.type u v).run P w=.ok q w ->
        (Op.eqFields (d+1) us vs fs).run P w=.ok r' w->(Op.eqFields (d+1) us vs (f::fs)).run P w=.ok (q && r') w:=fun u v q r' dd hu hv hd ha heq afB=>by
        simp only [Op.eqFields,if_pos hn,ck,WK us u hu dd hd ha,WK vs v hv dd hd ha,cK,heq,fE,cP,afB]
        cases q <;> simp
       split at hf
       . rename_i hd
         cases hf
         cases xs with
         | nil=>simp [pZ] at he
         | cons x xs =>
           cases ys with
           | nil=>cases x <;> simp [pZ] at he
           | cons y ys =>
             cases x <;> cases y <;> simp only [pZ,reduceCtorEq] at he
             cases hr:pZ ks' xs ys with
             | none=>simp [hr] at he
             | some r' =>
               simp [hr] at he
               subst he
               obtain ⟨u,hu,FB,mv⟩:=pD hx
               obtain ⟨v,hv,FC,C8⟩:=pD hy
               simp only [ay] at FB FC
               subst FB FC
               have:=wL _ _ _ r' _ hu hv hd rfl (run_equalIn_bool' w d f.type _ _ hd) (rG fs (i+1) ks' xs ys us vs r' Pz hr mv C8)
               rw [this]
       . rename_i kk hd
         cases hf
         cases xs with
         | nil=>simp [pZ] at he
         | cons x xs =>
           cases ys with
           | nil=>cases x <;> simp [pZ] at he
           | cons y ys =>
             cases x <;> cases y <;> simp only [pZ,reduceCtorEq] at he
             split at he
             . rename_i e; subst e
               cases hr:pZ ks' xs ys with
               | none=>simp [hr] at he
               | some r' =>
                 simp [hr] at he
                 subst he
                 obtain ⟨u,hu,FB,mv⟩:=pD hx
                 obtain ⟨v,hv,FC,C8⟩:=pD hy
                 simp only [ay] at FB FC
                 subst FB FC
                 have:=wL _ _ _ r' _ hu hv hd rfl (run_equalIn_int w d f.type _ _ _ _ hd) (rG fs (i+1) ks' xs ys us vs r' Pz hr mv C8)
                 rw [this]
             . cases he
       . rename_i hd
         cases hf
         cases xs with
         | nil=>simp [pZ] at he
         | cons x xs =>
           cases ys with
           | nil=>cases x <;> simp [pZ] at he
           | cons y ys =>
             cases x <;> cases y <;> simp only [pZ,reduceCtorEq] at he
             cases hr:pZ ks' xs ys with
             | none=>simp [hr] at he
             | some r' =>
               simp [hr] at he
               subst he
               obtain ⟨u,hu,FB,mv⟩:=pD hx
               obtain ⟨v,hv,FC,C8⟩:=pD hy
               simp only [ay] at FB FC
               subst FB FC
               have:=wL _ _ _ r' _ hu hv hd rfl (run_equalIn_string w d f.type _ _ hd) (rG fs (i+1) ks' xs ys us vs r' Pz hr mv C8)
               rw [this]
               simp [ByteArray.toList_eq]
       . cases hf
     . cases hf
   . cases hk
theorem DI {P:Program} {t:TypeId} {a b:List AV} {us vs:List Value} {r:Bool} (h:K9 P t a b=some r) (ha:aD g a us) (hb:aD g b vs) :
 (Op.equalIn 10000 t (.agg us.toArray) (.agg vs.toArray)).run P w=.ok r w/\P.eqGuardType P.depth t=false:=by
 unfold K9 at h
 split at h
 . rename_i ks iE
   unfold MX at iE
   split at iE
   . rename_i fs hu
     split at iE
     . rename_i hc
       have ey:P.fieldsOf t=fs:=by simp [Program.fieldsOf,hu]
       refine ⟨?_,hc.2⟩
       rw [run_equalIn_struct w 9999 t _ _ (by rw [ey]; exact hu) hc.1,ey]
       exact rG (d:=9998) fs.toList 0 ks a b _ _ r iE h (by simpa using ha) (by simpa using hb)
     . cases iE
   . cases iE
 . cases h
theorem tF {P:Program} (w:World) (d:Nat) (t:TypeId) (ms:Array (String × TypeId)) (h:P.underlying t=some (.interface ms)) (a:TypeId) (b:Value):(Op.equalIn (d+1) t (.iface a b) .nilIface).run P w=.ok false w:=by
 simp [Op.equalIn,run_underlying h]
theorem kF {P:Program} (w:World) (d:Nat) (t e:TypeId) (h:P.underlying t=some (.pointer e)) (a:Option Addr):(Op.equalIn (d+1) t (.pointer a) (.pointer none)).run P w=.ok a.isNone w:=by
 cases a <;> simp [Op.equalIn,run_underlying h]
theorem pq {P:Program} (w:World) (d:Nat) (t e:TypeId) (h:P.underlying t=some (.slice e)) (a:Option Addr) (n c:Nat):(Op.equalIn (d+1) t (.slice a n c) (.slice none 0 0)).run P w=.ok a.isNone w:=by
 cases a <;> simp [Op.equalIn,run_underlying h]
theorem rH {P:Program} (w:World) (d:Nat) (t:TypeId) (ms:Array (String × TypeId)) (h:P.underlying t=some (.interface ms)):(Op.equalIn (d+1) t .nilIface .nilIface).run P w=.ok true w:=by
 simp [Op.equalIn,run_underlying h]
theorem OH (h:bo g U w) {op:BinOp} {t:TypeId} {x y:AV} {u v:Value} (X Y:Operand) (hx:ay g x u) (hy:ay g y v) :
 aC.Fits C g U (MA C.P op t x y) ((do let r <- (do eqGuard op t X Y u v; binOp op t u v:Sem Value); pure (Next.value r):Sem Next).run C.P w):=by
 have hI:∀ (k:IntKind) (n:Int),aC.Fits C g U (jq k n) (.ok (.value (.int k (k.wrap n))) w):=fun k n=>by
  unfold jq
  split
  . intro hi
    rw [yI hi]
    exact a8 h (by simp only [ay])
  . exact a8 h (by simp only [ay])
 unfold MA
 split
 all_goals first
  | trivial
  | skip
 all_goals simp only [ay] at hx hy
 all_goals first
  | (subst hx hy
     split
     . rename_i e; subst e
       first
        | (simp only [eqGuard,binOp,ne_eq,not_true_eq_false,if_false,Op.intArith,Op.intCmp,Op.intBits,ck,cP,cK,Bool.not_eq_true',Bool.true_eq_false,du,fD,bQ,if_true,fE]
           first
            | exact hI _ _
            | exact a8 h (by simp only [ay]))
        | (intro hb
           simp only [eqGuard,binOp,ne_eq,not_true_eq_false,if_false,Op.intDiv,if_neg hb,ck,cP,cK,Bool.not_eq_true',Bool.true_eq_false,du,fD,bQ,if_true,fE]
           first
            | exact hI _ _
            | exact a8 h (by simp only [ay]))
     . trivial)
  | skip
 . subst hx hy
   simp only [eqGuard,binOp,Op.stringOp,ck,cP,cK,du,bQ,if_false,fE,ByteArray.toList_eq,List.toList_toArray]
   exact a8 h (by simp only [ay])
 . subst hx hy
   simp only [eqGuard,binOp,Op.stringOp,ck,cP,cK,du,bQ,if_false,fE,ByteArray.toList_eq,List.toList_toArray]
   exact a8 h (by simp only [ay]; rfl)
 . subst hx hy
   rename_i a b
   intro hle
   have h1:¬ (((ByteArray.mk a.toArray).size+(ByteArray.mk b.toArray).size:Nat):Int) > IntKind.i64.max:=by
    have e1:(ByteArray.mk a.toArray).size=a.length:=by simp [ByteArray.size]
    have e2:(ByteArray.mk b.toArray).size=b.length:=by simp [ByteArray.size]
    have e3:IntKind.i64.max=9223372036854775807:=by simp [IntKind.max,IntKind.signed,IntKind.bits]
    rw [e1,e2,e3]; omega
   have h2:(ByteArray.mk a.toArray)++(ByteArray.mk b.toArray)=ByteArray.mk (a++b).toArray:=by
    apply ByteArray.ext
    simp
   simp only [eqGuard,binOp,Op.stringOp,ck,cP,cK,if_neg h1,fE,du,fD,bQ,if_true,if_false,h2]
   exact a8 h (by simp only [ay])
 . subst hx hy
   split
   . rename_i ht
     have hu:C.P.underlying t=some .bool:=by unfold wW at ht; split at ht <;> simp_all
     have hr:=run_equalIn_bool' (P:=C.P) w 9999 t
     simp only [eqGuard,binOp,Op.equal,Op.maxDepth,ck,cP,cK,hr _ _ hu,du,bQ,if_false,fE]
     exact a8 h (by simp only [ay])
   . trivial
 . subst hx hy
   split
   . rename_i ht
     have hu:C.P.underlying t=some .bool:=by unfold wW at ht; split at ht <;> simp_all
     have hr:=run_equalIn_bool' (P:=C.P) w 9999 t
     simp only [eqGuard,binOp,Op.equal,Op.maxDepth,ck,cP,cK,hr _ _ hu,du,bQ,if_false,fE]
     exact a8 h (by simp only [ay]; rfl)
   . trivial
 . rename_i a b
   obtain ⟨us,rfl,_,ha⟩:=hx
   obtain ⟨vs,rfl,_,hb⟩:=hy
   cases he:K9 C.P t a b with
   | none=>trivial
   | some r =>
     obtain ⟨h1,h2⟩:=DI (w:=w) he ha hb
     simp only [yC,ck,run_eqGuard_agg w _ _ _ _ _ _ h2,cK,run_eql_struct,h1,cP]
     exact a8 h (by simp only [ay])
 . rename_i a b
   obtain ⟨us,rfl,_,ha⟩:=hx
   obtain ⟨vs,rfl,_,hb⟩:=hy
   cases he:K9 C.P t a b with
   | none=>trivial
   | some r =>
     obtain ⟨h1,h2⟩:=DI (w:=w) he ha hb
     simp only [yC,ck,run_eqGuard_agg w _ _ _ _ _ _ h2,cK,run_neq_struct,h1,cP]
     exact a8 h (by simp only [ay])
 . obtain ⟨u',rfl,_⟩:=hx
   subst hy
   split
   . rename_i ht
     obtain ⟨ms,hu⟩:∃ ms,C.P.underlying t=some (.interface ms):=by unfold lK at ht; split at ht <;> simp_all
     have hr:=tF (P:=C.P) w 9999 t ms hu
     simp only [eqGuard,binOp,Op.equal,Op.maxDepth,hr,ck,cP,cK,du,bQ,if_false,fE]
     exact a8 h (by simp only [ay])
   . trivial
 . obtain ⟨u',rfl,_⟩:=hx
   subst hy
   split
   . rename_i ht
     obtain ⟨ms,hu⟩:∃ ms,C.P.underlying t=some (.interface ms):=by unfold lK at ht; split at ht <;> simp_all
     have hr:=tF (P:=C.P) w 9999 t ms hu
     simp only [eqGuard,binOp,Op.equal,Op.maxDepth,hr,ck,cP,cK,du,fD,bQ,if_false,fE]
     exact a8 h (by simp only [ay])
   . trivial
 . subst hx hy
   split
   . rename_i ht
     obtain ⟨ms,hu⟩:∃ ms,C.P.underlying t=some (.pointer ms):=by unfold nA at ht; split at ht <;> simp_all
     have hr:=kF (P:=C.P) w 9999 t ms hu
     simp only [eqGuard,binOp,Op.equal,Op.maxDepth,hr,ck,cP,cK,Option.isNone_none,du,fD,bQ,if_false,fE]
     exact a8 h (by simp [ay])
   . trivial
 . obtain ⟨x,_,rfl⟩:=hx
   subst hy
   split
   . rename_i ht
     obtain ⟨ms,hu⟩:∃ ms,C.P.underlying t=some (.pointer ms):=by unfold nA at ht; split at ht <;> simp_all
     have hr:=kF (P:=C.P) w 9999 t ms hu
     simp only [eqGuard,binOp,Op.equal,Op.maxDepth,hr,ck,cP,cK,Option.isNone_none,du,fD,bQ,if_false,fE]
     exact a8 h (by simp [ay])
   . trivial
 . subst hx hy
   split
   . rename_i ht
     obtain ⟨ms,hu⟩:∃ ms,C.P.underlying t=some (.pointer ms):=by unfold nA at ht; split at ht <;> simp_all
     have hr:=kF (P:=C.P) w 9999 t ms hu
     simp only [eqGuard,binOp,Op.equal,Op.maxDepth,hr,ck,cP,cK,Option.isNone_none,du,fD,bQ,if_false,fE]
     exact a8 h (by simp [ay])
   . trivial
 . obtain ⟨x,_,rfl⟩:=hx
   subst hy
   split
   . rename_i ht
     obtain ⟨ms,hu⟩:∃ ms,C.P.underlying t=some (.pointer ms):=by unfold nA at ht; split at ht <;> simp_all
     have hr:=kF (P:=C.P) w 9999 t ms hu
     simp only [eqGuard,binOp,Op.equal,Op.maxDepth,hr,ck,cP,cK,Option.isNone_none,du,fD,bQ,if_false,fE]
     exact a8 h (by simp [ay])
   . trivial
 . obtain ⟨_,_,_,rfl,_⟩:=hx
   subst hy
   split
   . rename_i ht
     obtain ⟨ms,hu⟩:∃ ms,C.P.underlying t=some (.pointer ms):=by unfold nA at ht; split at ht <;> simp_all
     have hr:=kF (P:=C.P) w 9999 t ms hu
     simp only [eqGuard,binOp,Op.equal,Op.maxDepth,hr,ck,cP,cK,Option.isNone_none,du,fD,bQ,if_false,fE]
     exact a8 h (by simp [ay])
   . trivial
 . obtain ⟨_,_,_,rfl,_⟩:=hx
   subst hy
   split
   . rename_i ht
     obtain ⟨ms,hu⟩:∃ ms,C.P.underlying t=some (.pointer ms):=by unfold nA at ht; split at ht <;> simp_all
     have hr:=kF (P:=C.P) w 9999 t ms hu
     simp only [eqGuard,binOp,Op.equal,Op.maxDepth,hr,ck,cP,cK,Option.isNone_none,du,fD,bQ,if_false,fE]
     exact a8 h (by simp [ay])
   . trivial
 . subst hx
   subst hy
   split
   . rename_i ht
     obtain ⟨ms,hu⟩:∃ ms,C.P.underlying t=some (.slice ms):=by unfold qz at ht; split at ht <;> simp_all
     have hr:=pq (P:=C.P) w 9999 t ms hu
     simp only [eqGuard,binOp,Op.equal,Op.maxDepth,hr,ck,cP,cK,Option.isNone_none,Option.isNone_some,du,fD,bQ,if_false,fE]
     exact a8 h (by simp [ay])
   . trivial
 . obtain ⟨_,_,_,_,rfl,_⟩:=hx
   subst hy
   split
   . rename_i ht
     obtain ⟨ms,hu⟩:∃ ms,C.P.underlying t=some (.slice ms):=by unfold qz at ht; split at ht <;> simp_all
     have hr:=pq (P:=C.P) w 9999 t ms hu
     simp only [eqGuard,binOp,Op.equal,Op.maxDepth,hr,ck,cP,cK,Option.isNone_none,Option.isNone_some,du,fD,bQ,if_false,fE]
     exact a8 h (by simp [ay])
   . trivial
 . obtain ⟨_,_,_,rfl,_⟩:=hx
   subst hy
   split
   . rename_i ht
     obtain ⟨ms,hu⟩:∃ ms,C.P.underlying t=some (.slice ms):=by unfold qz at ht; split at ht <;> simp_all
     have hr:=pq (P:=C.P) w 9999 t ms hu
     simp only [eqGuard,binOp,Op.equal,Op.maxDepth,hr,ck,cP,cK,Option.isNone_none,Option.isNone_some,du,fD,bQ,if_false,fE]
     exact a8 h (by simp [ay])
   . trivial
theorem OI (h:bo g U w) {op:BinOp} {t:TypeId} {x y:AV} {u v:Value} (X Y:Operand) (hx:ay g x u) (hy:ay g y v) :
 aC.Fits C g U (Hu C.P op t (isLit X || isLit Y) x y) ((do let r <- (do eqGuard op t X Y u v; binOp op t u v:Sem Value); pure (Next.value r):Sem Next).run C.P w):=by
 have key:∀ (op:BinOp),(op=.eql\/op=.neq)->lK C.P t=true->(isLit X || isLit Y)=true->(eqGuard op t X Y .nilIface .nilIface).run C.P w=.ok () w:=fun op hop ht hl=>by
  obtain ⟨ms,hu⟩:∃ ms,C.P.underlying t=some (.interface ms):=by unfold lK at ht; split at ht <;> simp_all
  rcases hop with rfl | rfl <;> cases X <;> cases Y <;> simp [isLit] at hl <;> simp [eqGuard]
 unfold Hu
 split
 . simp only [ay] at hx hy
   subst hx hy
   split
   . rename_i ht
     obtain ⟨ms,hu⟩:∃ ms,C.P.underlying t=some (.interface ms):=by have ht:=ht.1; unfold lK at ht; split at ht <;> simp_all
     have hr:=rH (P:=C.P) w 9999 t ms hu
     simp only [ck,key _ (.inl rfl) ht.1 ht.2,binOp,Op.equal,Op.maxDepth,hr,cP,cK,du,fD,bQ,if_false,fE]
     exact a8 h (by simp [ay])
   . trivial
 . simp only [ay] at hx hy
   subst hx hy
   split
   . rename_i ht
     obtain ⟨ms,hu⟩:∃ ms,C.P.underlying t=some (.interface ms):=by have ht:=ht.1; unfold lK at ht; split at ht <;> simp_all
     have hr:=rH (P:=C.P) w 9999 t ms hu
     simp only [ck,key _ (.inr rfl) ht.1 ht.2,binOp,Op.equal,Op.maxDepth,hr,cP,cK,du,fD,bQ,if_false,fE]
     exact a8 h (by simp [ay])
   . trivial
 . exact OH h X Y hx hy
end
end Go.Rip
namespace Go.Rip
open Go.RowKit
section
variable {C:cS} {g:Gh} {U:St} {w:World}
def Mw (P:Program) (t u:TypeId):Option (TypeId × Nat) :=
 match P.underlying u with
 | some (.slice _)=>fJ P t
 | some .string=>match fJ P t with
   | some (e,1)=>some (e,1)
   | _=>none
 | _=>none
def rI (U:St):AV->Option (Nat × List AV)
 | .vec m _ l=>some (m,l)
 | .aq=>some (0,[])
 | .ms b off m jA _=>match U.box b with
   | some l=>some (m,(l.drop off).take (m * jA))
   | none=>none
 | .str s=>some (s.length,s.map fun b=>.int .u8 b.toNat)
 | _=>none
def D8 (P:Program) (t u:TypeId) (mu:Bool) (s y:AV) (U:St):aC :=
 match Mw P t u,rI U y with
 | some (e,sz),some (m,l2) =>
   .cond (l2.length=m * sz) (match s with
   | .aq=>if m=0 then .val .aq else .cond (m <= 4294967296) (if mu then .pF m sz e none l2 else .oE m l2 none ⟨m,e,sz⟩)
   | .vec n .full l=>if m=0 then .val s else .cond (l.length=n * sz/\n+m <= 4294967296) (.oE (n+m) (l++l2) none ⟨n+m,e,sz⟩)
   | .vec n (.own τ) l=>.cond (U.tok τ=some ⟨n,e,sz⟩/\l.length=n * sz/\n+m <= 4294967296) (.oE (n+m) (l++l2) (some τ) ⟨n+m,e,sz⟩)
   | .ms b off n jA e'=>match U.box b with
     | some l=>.cond (off=0/\jA=sz/\e'=e/\n * sz <= l.length/\n+m <= 4294967296) (.pF (n+m) sz e (some b) (l.take (n * sz)++l2))
     | none=>.bad
   | _=>.bad)
 | _,_=>.bad
theorem Oy {P:Program} {t u e:TypeId} {sz:Nat} (h:Mw P t u=some (e,sz)):fJ P t=some (e,sz)/\∃ d,P.underlying u=some d/\((∃ x,d=.slice x)\/d=.string):=by
 unfold Mw at h
 split at h
 . rename_i x hx; exact ⟨h,_,hx,.inl ⟨x,rfl⟩⟩
 . rename_i hx
   split at h
   . rename_i e' he
     simp only [ji,gL] at h
     obtain ⟨rfl,rfl⟩:=h
     exact ⟨he,_,hx,.inr rfl⟩
   . cases h
 . cases h
theorem Tg (h:bo g U w) {y:AV} {v:Value} (hy:ay g y v) {m:Nat} {l2:List AV} (hs:rI U y=some (m,l2)) {sz:Nat} (hl:l2.length=m * sz) :
 (∀ W,(Builtin.lenOf v).run C.P W=.ok m W)/\∃ us:List Value,aD g l2 us/\(∀ u ∈ us,u.oneCell'=true)/\∀ W:World,W.heap=w.heap->(Builtin.firstCells sz m v).run C.P W=.ok us.toArray W:=by
 have lH:∀ aF off j,(⟨aF,off,none⟩:Addr).add j=⟨aF,off+j,none⟩:=fun aF off j=>by unfold Addr.add; split <;> simp_all
 have sJ:∀ (W:World) a,W.heap=w.heap->W.cell? a=w.cell? a:=fun W a hW=>by simp [World.cell?,hW]
 have read:∀ (aF off c:Nat) (us:List Value),us.length=m * sz->(∀ j u,us[j]?=some u->w.cell? ⟨aF,off+j,none⟩=some u)->∀ W:World,W.heap=w.heap ->
  (Builtin.firstCells sz m (.slice (some ⟨aF,off,none⟩) m c)).run C.P W=.ok us.toArray W:=fun aF off c us hlen hc W hW=>by
  exact run_firstCells_some W sz m ⟨aF,off,none⟩ m c us hlen (fun j u hu=>by rw [lH,sJ W _ hW]; exact hc j u hu)
 cases y <;> simp only [rI,reduceCtorEq,ji,gL] at hs
 . rename_i s
   obtain ⟨rfl,rfl⟩:=hs
   simp only [ay] at hy
   subst hy
   have fh:(ByteArray.mk s.toArray).size=s.length:=by simp [ByteArray.size]
   refine ⟨fun W=>by simp [Builtin.lenOf,fh],s.map (fun b=>Value.int .u8 b.toNat),?_,by simp [Value.oneCell'],fun W _=>?_⟩
   . refine aD.Ds (by simp) fun i x u hx hu=>?_
     simp only [nE,pV] at hx hu
     obtain ⟨b,hb,rfl⟩:=hx
     obtain ⟨b',fC,rfl⟩:=hu
     rw [hb] at fC; cases fC
     simp only [ay]
   . simp only [Builtin.firstCells,cP]
     congr 1
     apply Array.ext'
     simp
 . obtain ⟨rfl,rfl⟩:=hs
   simp only [ay] at hy
   subst hy
   exact ⟨fun W=>by simp [Builtin.lenOf],[],by simp [aD],by simp,fun W _=>by simp [Builtin.firstCells]⟩
 . rename_i n cap l
   obtain ⟨rfl,rfl⟩:=hs
   simp only [ay] at hy
   obtain ⟨aF,off,c,vs,rfl,_,_,_,hi,hr⟩:=hy
   exact ⟨fun W=>by simp [Builtin.lenOf],vs,hr,fun u hu=>by
    obtain ⟨j,hj⟩:=List.getElem?_of_mem hu
    exact (h.ct _ _ _ (hi j u hj)).2,read aF off c vs (by rw [hr.length,hl]) fun j u hu=>(h.ct _ _ _ (hi j u hu)).1⟩
 . rename_i b off n jA e'
   split at hs
   . rename_i l hb
     simp only [ji,gL] at hs
     obtain ⟨rfl,rfl⟩:=hs
     simp only [ay] at hy
     obtain ⟨x,c,hx,rfl,_,_,_,_⟩:=hy
     obtain ⟨a,vs,hv,ha,hr,hc⟩:=sH h (p:=.box b off) (v:=.pointer (some ⟨x.aF,off,none⟩)) (l:=l.drop off) (by simp only [ay]; exact ⟨x,hx,rfl⟩) (by simp [nr,hb])
     cases hv
     refine ⟨fun W=>by simp [Builtin.lenOf],vs.take (n * jA),hr.take _,fun u hu=>?_,read x.aF off c _ (by rw [(hr.take _).length,hl]) fun j u hu=>?_⟩
     . obtain ⟨j,hj⟩:=List.getElem?_of_mem hu
       rw [List.getElem?_take] at hj
       split at hj
       . exact (hc j u hj).2
       . cases hj
     . rw [List.getElem?_take] at hu
       split at hu
       . have:=(hc j u hu).1; rwa [lH] at this
       . cases hu
   . cases hs
theorem pJ {P:Program} {w:World} {t u ty e:TypeId} {i:TypeInfo} {d:TypeDesc} (ht:P.underlying t=some (.slice e)) (hu:P.underlying u=some d) (hd:(∃ x,d=.slice x)\/d=.string) (hi:P.info? e=some i)
 {base:Option Addr} {n c m:Nat} {v:Value} {us:List Value} (hm:∀ W,(Builtin.lenOf v).run P W=.ok m W) (hf:(Builtin.firstCells i.size m v).run P w=.ok us.toArray w) (qk:n+m <= c) :
 (Builtin.append_ #[t,u] ty #[.slice base n c,v]).run P w=match base with
   | some a=>((storeCells (a.add (n * i.size)) us).run P w).andThen fun _ w'=>.ok (.slice base (n+m) c) w'
   | none=>.ok (.slice base (n+m) c) w:=by
 rcases hd with ⟨x,rfl⟩ | rfl <;> cases base <;>
  simp [Builtin.append_,run_underlying ht,run_underlying hu,sizeOf,typeInfo,hi,hm,qk,hf]
theorem EK {P:Program} {w:World} {t u ty e:TypeId} {i:TypeInfo} {z:Value} {d:TypeDesc} (ht:P.underlying t=some (.slice e)) (hu:P.underlying u=some d) (hd:(∃ x,d=.slice x)\/d=.string) (hi:P.info? e=some i) (hz:i.zero=some z) (CW:i.bytes <= 32768)
 {base:Option Addr} {n c m:Nat} {v:Value} {zP us:List Value} (hm:∀ W,(Builtin.lenOf v).run P W=.ok m W) (hf:∀ W:World,W.heap=w.heap->(Builtin.firstCells i.size m v).run P W=.ok us.toArray W)
 (ho:∀ W:World,W.heap=w.heap->(Builtin.firstCells i.size n (.slice base n c)).run P W=.ok zP.toArray W) (agM:c < n+m) (p7:n+m <= 4294967296) :
 (Builtin.append_ #[t,u] ty #[.slice base n c,v]).run P w =
   .ok (.slice (some ⟨w.heap.size,0,none⟩) (n+m) (grownCap w (n+m) c e))
    (w.drew.alloc (.cells (zP.toArray++us.toArray++Builtin.zeroCells z.cells (grownCap w (n+m) c e - (n+m))) e)):=by
 have qk:¬ (n+m <= c):=by omega
 have Us:¬ (9223372036854775807 < ((n:Int)+(m:Int))):=by omega
 have iW:(n+m) * i.bytes <= 140737488355328:=Nat.le_trans (Nat.mul_le_mul p7 CW) (by omega)
 have Po:=growslice_fits (old:=c) (need:=n+m) (bytes:=i.bytes) (by omega) iW
 have Ur:¬ (281474976710656 < Builtin.nextslicecap (n+m) c * i.bytes):=by omega
 have kD:=hf w.drew rfl
 have WE:=ho w.drew rfl
 rcases hd with ⟨x,rfl⟩ | rfl <;>
 . simp [Builtin.append_,run_underlying ht,run_underlying hu,sizeOf,typeInfo,zeroValue,hi,hz,hm,qk,Us,Ur,Question.forced,kD,WE,newRow,grownCap]
   congr 2
   apply Array.ext'
   simp [gi]
theorem St.K7 (U:St) (d:Option Nat):St.Le (U.th d) U:=by
 cases d with
 | none=>exact St.Le.refl U
 | some b=>exact St.ug U b
theorem p5 {w:World} (h:bo g U w) {del:Option Nat} {e:TypeId} {sz n c:Nat} {l:List AV} {vs rest:List Value} (hr:aD g l vs) (h1:∀ u ∈ vs,u.oneCell'=true) (h2:∀ u ∈ rest,u.oneCell'=true)
 (hl:l.length=n * sz) (hc:vs.length+rest.length=c * sz) (hn:n <= c) (wJ:c <= maxLen) :
 aC.Fits C g U (.oE n l del ⟨n,e,sz⟩) (.ok (.value (.slice (some ⟨w.heap.size,0,none⟩) n c)) (w.alloc (.cells (vs++rest).toArray e))):=by
 obtain ⟨τ,g',h3,hle,h4,h5,h6⟩:=(h.weaken (St.K7 U del)).oE e sz n c (vs++rest).toArray vs rest (by simp) (by
  intro u hu
  simp only [gu] at hu
  rcases hu with hu | hu
  . exact h1 u hu
  . exact h2 u hu) (by rw [hr.length,hl]) (by simp [hc]) hn wJ
 refine ⟨_,_,g',τ,rfl,h3,hle,h6,?_⟩
 simp only [NV.at,ay]
 exact ⟨w.heap.size,0,c,vs,rfl,hn,wJ,⟨rfl,h4⟩,h5,hr.mono hle⟩
theorem rk {w:World} (h:bo g U w) {del:Option Nat} {e:TypeId} {sz n c:Nat} {l:List AV} {vs rest:List Value} (hr:aD g l vs) (h1:∀ u ∈ vs,u.oneCell'=true) (h2:∀ u ∈ rest,u.oneCell'=true)
 (hc:vs.length+rest.length=c * sz) (hn:n <= c) (wJ:c <= maxLen) :
 aC.Fits C g U (.pF n sz e del l) (.ok (.value (.slice (some ⟨w.heap.size,0,none⟩) n c)) (w.alloc (.cells (vs++rest).toArray e))):=by
 obtain ⟨b,g',h3,hle,h4,h6⟩:=(h.weaken (St.K7 U del)).db e (vs++rest).toArray vs rest l (by simp) hr (by
  intro u hu
  simp only [gu] at hu
  rcases hu with hu | hu
  . exact h1 u hu
  . exact h2 u hu)
 refine ⟨_,_,g',b,rfl,h3,hle,h6,?_⟩
 simp only [NV.at,ay]
 exact ⟨_,c,h4,rfl,hn,wJ,by simp [hc],rfl⟩
theorem ng {z:Array Value} (hz:∀ u ∈ z.toList,u.oneCell'=true) (n:Nat) (hp:0 < z.size):∀ u ∈ (Builtin.zeroCells z n).toList,u.oneCell'=true:=by
 intro u hu
 simp only [Builtin.zeroCells,Array.toList_map,List.mem_map] at hu
 obtain ⟨i,_,rfl⟩:=hu
 have aQ:i % z.size < z.size:=Nat.mod_lt _ hp
 rw [getElem!_pos z _ aQ]
 exact hz _ (by simp)
theorem Hs (h:bo g U w) {t u ty:TypeId} {mu:Bool} {s y:AV} {v v2:Value} (hs:ay g s v) (hy:ay g y v2) :
 aC.Fits C g U (D8 C.P t u mu s y U) ((do let r <- Builtin.append_ #[t,u] ty #[v,v2]; pure (Next.value r):Sem Next).run C.P w):=by
 have lH:∀ aF off j,(⟨aF,off,none⟩:Addr).add j=⟨aF,off+j,none⟩:=fun aF off j=>by unfold Addr.add; split <;> simp_all
 unfold D8
 split
 . rename_i e sz m l2 zr No
   intro rT
   obtain ⟨ux,d,hu,hd⟩:=Oy zr
   obtain ⟨i,z,ht,hi,hz,wQ,rfl,oT,CW,hz1⟩:=jl ux
   obtain ⟨hm,us,uw,wF,hf⟩:=Tg (C:=C) h hy No rT
   have PN:us.length=m * i.size:=by rw [uw.length,rT]
   have grow:∀ (base:Option Addr) (n c:Nat) (zP:List Value),(∀ W:World,W.heap=w.heap->(Builtin.firstCells i.size n (.slice base n c)).run C.P W=.ok zP.toArray W)->zP.length=n * i.size->c < n+m->n+m <= 4294967296 ->
    ∃ cap rest,n+m <= cap/\cap <= maxLen/\(∀ u ∈ rest,u.oneCell'=true)/\(zP++us).length+rest.length=cap * i.size /\
    (Builtin.append_ #[t,u] ty #[.slice base n c,v2]).run C.P w=.ok (.slice (some ⟨w.drew.heap.size,0,none⟩) (n+m) cap) (w.drew.alloc (.cells ((zP++us)++rest).toArray e)):=fun base n c zP ho hol aQ p7=>by
    have lI:=grownCap_ge w (n+m) c e
    have hle:=grownCap_le_maxLen w (n+m) c e (by unfold maxLen; omega)
    refine ⟨grownCap w (n+m) c e,(Builtin.zeroCells z.cells (grownCap w (n+m) c e - (n+m))).toList,lI,hle,ng hz1 _ (by omega),?_,?_⟩
    . rw [cM,hol,PN,tp,size_zeroCells,wQ,<- Nat.add_mul,<- Nat.add_mul]
      congr 1; omega
    . rw [EK ht hu hd hi hz CW hm hf ho aQ p7]
      congr 3
      simp
   split
   . simp only [ay] at hs
     subst hs
     split
     . rename_i h0
       subst h0
       rw [ck,pJ ht hu hd hi hm (hf w rfl) (by omega)]
       exact a8 h (by simp only [ay])
     . rename_i h0
       intro p7
       obtain ⟨cap,rest,h1,h2,h3,h4,h5⟩:=grow none 0 0 [] (fun W _=>by simp [Builtin.firstCells]) (by simp) (by omega) (by omega)
       rw [ck,h5]
       have eU:=h.grow (lG w)
       simp only [df,jY] at h1 h4 h5 ⊢
       split
       . exact rk eU uw wF h3 h4 h1 h2
       . exact p5 eU uw wF h3 rT h4 h1 h2
   . rename_i n l
     have wP:=hs
     simp only [ay] at hs
     obtain ⟨aF,off,c,vs,rfl,Fw,wJ,zt,oS,hr⟩:=hs
     simp only [uV] at zt
     subst zt
     split
     . rename_i h0
       subst h0
       rw [ck,pJ ht hu hd hi hm (hf w rfl) (by omega)]
       have afG:us=[]:=List.eq_nil_of_length_eq_zero (by simpa using PN)
       subst afG
       simp only [storeCells,cP,cK,Nat.add_zero]
       exact a8 h wP
     . rename_i h0
       rintro ⟨hl,p7⟩
       have iH:vs.length=c * i.size:=by rw [hr.length,hl]
       have ho:∀ W:World,W.heap=w.heap->(Builtin.firstCells i.size c (.slice (some ⟨aF,off,none⟩) c c)).run C.P W=.ok vs.toArray W:=fun W hW =>
        run_firstCells_some W i.size c ⟨aF,off,none⟩ c c vs iH (fun j u hu=>by
         rw [lH]
         have:W.cell? ⟨aF,off+j,none⟩=w.cell? ⟨aF,off+j,none⟩:=by simp [World.cell?,hW]
         rw [this]; exact (h.ct _ _ _ (oS j u hu)).1)
       obtain ⟨cap,rest,h1,h2,h3,h4,h5⟩:=grow (some ⟨aF,off,none⟩) c c vs ho iH (by omega) p7
       rw [ck,h5]
       have eU:=h.grow (lG w)
       refine p5 eU (hr.append uw) ?_ h3 (by rw [cM,hl,rT,Nat.add_mul]) h4 h1 h2
       intro u hu
       simp only [gu] at hu
       rcases hu with hu | hu
       . obtain ⟨j,hj⟩:=List.getElem?_of_mem hu
         exact (h.ct _ _ _ (oS j u hj)).2
       . exact wF u hu
   . rename_i n τ l
     rintro ⟨aby,hl,p7⟩
     simp only [ay] at hs
     obtain ⟨aF,off,c,vs,rfl,Fw,wJ,zt,oS,hr⟩:=hs
     simp only [uV] at zt
     obtain ⟨rfl,wM⟩:=zt
     obtain ⟨ae2,c',cur,k1,k2,k3,k4,k5,k6,k7⟩:=h.tok τ _ aby
     rw [wM] at k1; cases k1
     have iH:vs.length=n * i.size:=by rw [hr.length,hl]
     by_cases qk:n+m <= c
     . have pR:n * i.size+us.length <= cur.size:=by
        have e4:cur.size=c * i.size:=k4
        rw [PN,e4,<- Nat.add_mul]; exact Nat.mul_le_mul_right _ qk
       have fV:=run_storeCells_at C.P aF (n * i.size) e us 0 cur w k3 (by simpa using pR) wF
       simp only [Nat.add_zero] at fV
       rw [ck,pJ ht hu hd hi hm (hf w rfl) qk]
       simp only [lH,df,fV,cK]
       obtain ⟨vL,g',t1,hle,t2,t3,t4⟩:=h.acg aby wM cur (cur.toList.take (n * i.size)++us++cur.toList.drop (n * i.size+us.length)).toArray us m k3 PN qk (by simp) wF
       refine ⟨_,_,g',vL,rfl,t1,hle,t4,?_⟩
       simp only [NV.at,ay]
       refine ⟨aF,0,c,vs++us,rfl,qk,wJ,⟨rfl,t2⟩,fun j u hu=>?_,(hr.append uw).mono hle⟩
       by_cases hj:j < vs.length
       . rw [wc hj] at hu
         exact (oS.mono hle) j u hu
       . rw [List.getElem?_append_right (by omega)] at hu
         have e0:n * i.size+(j - vs.length)=0+j:=by omega
         have t3':g'.ct aF (n * i.size+(j - vs.length))=some u:=t3 _ u hu
         rw [e0] at t3'
         exact t3'
     . have ho:∀ W:World,W.heap=w.heap->(Builtin.firstCells i.size n (.slice (some ⟨aF,0,none⟩) n c)).run C.P W=.ok vs.toArray W:=fun W hW =>
        run_firstCells_some W i.size n ⟨aF,0,none⟩ n c vs iH (fun j u hu=>by
         rw [lH]
         have:W.cell? ⟨aF,0+j,none⟩=w.cell? ⟨aF,0+j,none⟩:=by simp [World.cell?,hW]
         rw [this]; exact (h.ct _ _ _ (oS j u hu)).1)
       obtain ⟨cap,rest,h1,h2,h3,h4,h5⟩:=grow (some ⟨aF,0,none⟩) n c vs ho iH (by omega) p7
       rw [ck,h5]
       have eU:=h.grow (lG w)
       refine p5 eU (hr.append uw) ?_ h3 (by rw [cM,hl,rT,Nat.add_mul]) h4 h1 h2
       intro u hu
       simp only [gu] at hu
       rcases hu with hu | hu
       . obtain ⟨j,hj⟩:=List.getElem?_of_mem hu
         exact (h.ct _ _ _ (oS j u hj)).2
       . exact wF u hu
   . rename_i b off n jA e'
     split
     . rename_i l hb
       rintro ⟨rfl,rfl,rfl,hnl,p7⟩
       simp only [ay] at hs
       obtain ⟨x,c,hx,rfl,Fw,wJ,ad2,hxe⟩:=hs
       obtain ⟨x',cur,vs,aed,k1,k2,k3,k4,k5,k6,k7,k8⟩:=h.box b l hb
       rw [hx] at k1; cases k1
       have wK:cur.size=c * i.size:=by rw [k4]; omega
       have iH:=k6.length
       by_cases qk:n+m <= c
       . have pR:n * i.size+us.length <= cur.size:=by
          rw [PN,wK,<- Nat.add_mul]; exact Nat.mul_le_mul_right _ qk
         have fV:=run_storeCells_at C.P x.aF (n * i.size) x.e us 0 cur w k3 (by simpa using pR) wF
         simp only [Nat.add_zero] at fV
         rw [ck,pJ ht hu hd hi hm (hf w rfl) qk]
         simp only [lH,df,fV,cK]
         have e1:cur.toList.take (n * i.size)=vs.take (n * i.size):=by rw [k5,List.take_append_of_le_length (by omega)]
         have zA:=h.setRow hb hx (l':=l.take (n * i.size)++l2) (cur.toList.take (n * i.size)++us++cur.toList.drop (n * i.size+us.length)).toArray (vs.take (n * i.size)++us) (cur.toList.drop (n * i.size+us.length)) (by
          simp only [List.size_toArray,cM,List.length_take,List.length_drop,tp]; omega) (by simp [e1]) ((k6.take _).append uw) (by
          intro u hu
          simp only [gu] at hu
          rcases hu with (hu | hu) | hu
          . exact k7 u (List.mem_of_mem_take hu)
          . exact wF u hu
          . exact k7 u (List.mem_of_mem_drop hu))
         obtain ⟨b',g',f1,hle,f2,f3⟩:=zA.rename (b:=b) (x:=.box (l.take (n * i.size)++l2)) (by simp [St.bZ,St.set]) hx
         have ed:(U.bZ b (l.take (n * i.size)++l2)).del b=U.del b:=by
          simp only [St.bZ,St.set,St.del,St.mk.injEq,and_true]
          funext y
          split <;> rfl
         rw [ed] at f1 f3
         refine ⟨_,_,g',b',rfl,f1,hle,f3,?_⟩
         simp only [NV.at,ay]
         exact ⟨x,c,f2,rfl,qk,wJ,ad2,hxe⟩
       . have hvn:(vs.take (n * i.size)).length=n * i.size:=by simp; omega
         have ho:∀ W:World,W.heap=w.heap->(Builtin.firstCells i.size n (.slice (some ⟨x.aF,0,none⟩) n c)).run C.P W=.ok (vs.take (n * i.size)).toArray W:=fun W hW =>
          run_firstCells_some W i.size n ⟨x.aF,0,none⟩ n c _ hvn (fun j u hu=>by
           rw [lH]
           have:W.cell? ⟨x.aF,0+j,none⟩=w.cell? ⟨x.aF,0+j,none⟩:=by simp [World.cell?,hW]
           rw [this,cell_of_row _ _ _ cur x.e (0,0) k3,df,<- lO,k5]
           rw [List.getElem?_take] at hu
           split at hu
           . rw [wc (by omega)]; exact hu
           . cases hu)
         obtain ⟨cap,rest,h1,h2,h3,h4,h5⟩:=grow (some ⟨x.aF,0,none⟩) n c _ ho hvn (by omega) p7
         rw [ck,h5]
         have eU:=h.grow (lG w)
         refine rk eU ((k6.take _).append uw) ?_ h3 h4 h1 h2
         intro u hu
         simp only [gu] at hu
         rcases hu with hu | hu
         . refine k7 u ?_
           rw [k5]
           exact List.mem_append_left _ (List.mem_of_mem_take hu)
         . exact wF u hu
     . trivial
   . trivial
 . trivial
end
end Go.Rip
namespace Go.Rip
open Go.RowKit
section
variable {C:cS} {g:Gh} {U:St} {w:World}
def ej (zh:Int):Option AV->Option Int
 | none=>some zh
 | some (.int _ n)=>some n
 | _=>none
def xE:mg->Option AV->mg
 | .full,none=>.full
 | _,_=>.jc
def JG (P:Program) (t:TypeId) (x:AV) (lo hi:Option AV):aC :=
 match x with
 | .str s=>match oC P t,ej 0 lo,ej s.length hi with
   | true,some l,some h=>.cond (0 <= l/\l <= h/\h <= s.length) (.val (.str ((s.take h.toNat).drop l.toNat)))
   | _,_,_=>.bad
 | .vec n cap l=>match fJ P t,ej 0 lo,ej n hi with
   | some (_,sz),some a,some b=>.cond (0 <= a/\a <= b/\b <= n) (.val (.vec (b.toNat - a.toNat) (xE cap hi) ((l.take (b.toNat * sz)).drop (a.toNat * sz))))
   | _,_,_=>.bad
 | .aq=>match fJ P t,ej 0 lo,ej 0 hi with
   | some (_,_),some a,some b=>.cond (a=0/\b=0) (.val .aq)
   | _,_,_=>.bad
 | .ms b off n jA e=>match fJ P t,ej 0 lo,ej n hi with
   | some (_,sz),some a,some h=>.cond (0 <= a/\a <= h/\h <= n/\(a < n\/a=0)/\jA=sz) (.val (.ms b (off+a.toNat * sz) (h.toNat - a.toNat) jA e))
   | _,_,_=>.bad
 | _=>.bad
theorem run_sliceBound {P:Program} {x:Value} {k:IntKind} {n:Int} {y:Nat} {code:BoundsCode} (hx:x=.int k n) (h0:0 <= n) (h1:n <= y):(Instr.sliceBound x y code).run P w=.ok n.toNat w:=by
 subst hx
 simp [Instr.sliceBound,asIntOf,h0,h1]
theorem CI {zh:Int} {o:Option AV} {v:Option Value} {n:Int} (hr:match o,v with | none,none=>True | some x,some u=>ay g x u | _,_=>False) (hb:ej zh o=some n) :
 (o=none/\v=none/\n=zh)\/∃ k u,v=some u/\u=.int k n/\∃ x,o=some x:=by
 cases o with
 | none =>
   cases v with
   | none=>simp [ej] at hb; exact .inl ⟨rfl,rfl,hb.symm⟩
   | some u=>exact hr.elim
 | some x =>
   cases v with
   | none=>exact hr.elim
   | some u =>
     cases x <;> simp only [ej,reduceCtorEq,ji] at hb
     subst hb
     simp only [ay] at hr
     exact .inr ⟨_,u,rfl,hr,_,rfl⟩
theorem o8 {P:Program} {isS:Bool} {len cap:Nat} {lo hi:Option AV} {vl vh:Option Value} {a b:Int}
 (hl:match lo,vl with | none,none=>True | some x,some u=>ay g x u | _,_=>False) (hh:match hi,vh with | none,none=>True | some x,some u=>ay g x u | _,_=>False)
 (ha:ej 0 lo=some a) (hb:ej len hi=some b) (h0:0 <= a) (h1:a <= b) (h2:b <= len) (h3:len <= cap) :
 (Instr.sliceBounds isS len cap vl vh none).run P w=.ok (a.toNat,b.toNat,cap) w:=by
 rcases CI hl ha with ⟨_,rfl,rfl⟩ | ⟨k,u,rfl,hu,_⟩ <;> rcases CI hh hb with ⟨_,rfl,rfl⟩ | ⟨k',u',rfl,pO,_⟩
 . simp [Instr.sliceBounds]
 . have e1:∀ c,(Instr.sliceBound u' cap c).run P w=.ok b.toNat w:=fun c=>run_sliceBound pO (by omega) (by omega)
   simp [Instr.sliceBounds,e1]
 . have e1:∀ c,(Instr.sliceBound u len c).run P w=.ok a.toNat w:=fun c=>run_sliceBound hu h0 (by omega)
   simp [Instr.sliceBounds,e1]
 . have e1:∀ c,(Instr.sliceBound u' cap c).run P w=.ok b.toNat w:=fun c=>run_sliceBound pO (by omega) (by omega)
   have e2:∀ c,(Instr.sliceBound u b.toNat c).run P w=.ok a.toNat w:=fun c=>run_sliceBound hu h0 (by omega)
   simp [Instr.sliceBounds,e1,e2]
theorem KN (h:bo g U w) {t:TypeId} {x:AV} {v:Value} {lo hi:Option AV} {vl vh:Option Value} (hx:ay g x v)
 (hl:match lo,vl with | none,none=>True | some x,some u=>ay g x u | _,_=>False) (hh:match hi,vh with | none,none=>True | some x,some u=>ay g x u | _,_=>False) :
 aC.Fits C g U (JG C.P t x lo hi) ((do let r <- Instr.sliceAt t v vl vh none; pure (Next.value r):Sem Next).run C.P w):=by
 have lH:∀ aF off j,(⟨aF,off,none⟩:Addr).add j=⟨aF,off+j,none⟩:=fun aF off j=>by unfold Addr.add; split <;> simp_all
 unfold JG
 split
 . rename_i s
   split
   . rename_i a b ht ha hb
     rintro ⟨h0,h1,h2⟩
     simp only [ay] at hx
     subst hx
     have fh:(ByteArray.mk s.toArray).size=s.length:=by simp [ByteArray.size]
     have hr:=o8 (w:=w) (P:=C.P) (isS:=false) hl hh ha hb h0 h1 h2 (bT _)
     simp only [Instr.sliceAt,Instr.slice,run_underlying (qd ht),ck,cK,fh,hr,cP,Option.isSome_none,bQ,if_false]
     refine a8 h ?_
     simp only [ay]
     congr 1
     apply ByteArray.ext
     simp only [ByteArray.data_extract]
     apply Array.ext'
     simp [List.extract_eq_take_drop,List.drop_take]
   . trivial
 . rename_i n cap l
   split
   . rename_i e sz a b ht ha hb
     rintro ⟨h0,h1,h2⟩
     simp only [ay] at hx
     obtain ⟨aF,off,c,vs,rfl,Fw,wJ,zt,oS,hr⟩:=hx
     obtain ⟨i,z,hu,lJ,hz,wQ,rfl,oT,_⟩:=jl ht
     have ix:=o8 (w:=w) (P:=C.P) (isS:=true) hl hh ha hb h0 h1 h2 Fw
     simp only [Instr.sliceAt,Instr.slice,run_underlying hu,ck,cK,ix,cP,fg lJ]
     refine a8 h ?_
     have adM:uV g (xE cap hi) aF (if c=a.toNat then off else off+a.toNat * i.size) (b.toNat - a.toNat) (c - a.toNat):=by
      cases cap with
      | full =>
        cases hi with
        | none =>
          simp only [xE,uV] at zt ⊢
          simp only [ej,ji] at hb
          omega
        | some y=>trivial
      | own τ=>trivial
      | jc=>trivial
     simp only [ay]
     refine ⟨aF,if c=a.toNat then off else off+a.toNat * i.size,c - a.toNat,(vs.take (b.toNat * i.size)).drop (a.toNat * i.size),?_,by omega,by omega,adM,?_,(hr.take _).drop _⟩
     . simp only [Option.map_some,lH]
       split <;> rfl
     . split
       . rename_i e1
         have:(vs.take (b.toNat * i.size)).drop (a.toNat * i.size)=[]:=by
          rw [List.drop_eq_nil_iff]
          have:b.toNat <= a.toNat:=by omega
          have:=Nat.mul_le_mul_right i.size this
          simp; omega
         rw [this]; intro j u hu; simp at hu
       . intro j u hu
         rw [List.getElem?_drop,List.getElem?_take] at hu
         split at hu
         . have:=oS _ u hu
           rw [Nat.add_assoc]; exact this
         . cases hu
   . trivial
 . split
   . rename_i e sz a b ht ha hb
     rintro ⟨rfl,rfl⟩
     simp only [ay] at hx
     subst hx
     obtain ⟨i,z,hu,lJ,hz,wQ,rfl,oT,_⟩:=jl ht
     have ix:=o8 (w:=w) (P:=C.P) (isS:=true) (len:=0) (cap:=0) hl hh ha (by simpa using hb) (by omega) (by omega) (by simp) (bT _)
     simp only [Instr.sliceAt,Instr.slice,run_underlying hu,ck,cK,ix,cP,fg lJ]
     refine a8 h (by simp [ay])
   . trivial
 . rename_i b off n jA e
   split
   . rename_i e' sz a hh' ht ha hb
     rintro ⟨h0,h1,h2,h3,rfl⟩
     simp only [ay] at hx
     obtain ⟨y,c,hy,rfl,Fw,wJ,fh,hxe⟩:=hx
     obtain ⟨i,z,hu,lJ,hz,wQ,rfl,oT,_⟩:=jl ht
     have ix:=o8 (w:=w) (P:=C.P) (isS:=true) hl hh ha hb h0 h1 h2 Fw
     simp only [Instr.sliceAt,Instr.slice,run_underlying hu,ck,cK,ix,cP,fg lJ]
     refine a8 h ?_
     simp only [ay]
     have e2:off+a.toNat * i.size+(c - a.toNat) * i.size=y.size:=by
      have:a.toNat * i.size+(c - a.toNat) * i.size=c * i.size:=by rw [<- Nat.add_mul]; congr 1; omega
      omega
     refine ⟨y,c - a.toNat,hy,?_,by omega,by omega,e2,hxe⟩
     simp only [Option.map_some,lH]
     split
     . rename_i e1
       have h0a:a.toNat=0:=by omega
       simp [h0a]
     . rfl
   . trivial
 . trivial
def ly (op:UnOp) (x:AV):aC :=
 match op,x with
 | .not,.bool b=>.val (.bool (!b))
 | .neg,.int k n=>jq k (0 - n)
 | _,_=>.bad
theorem J4 (h:bo g U w) (k:IntKind) (n:Int):aC.Fits C g U (jq k n) (.ok (.value (.int k (k.wrap n))) w):=by
 unfold jq
 split
 . intro hi
   rw [yI hi]
   exact a8 h (by simp only [ay])
 . exact a8 h (by simp only [ay])
theorem VV (h:bo g U w) {op:UnOp} {x:AV} {v:Value} (hx:ay g x v):aC.Fits C g U (ly op x) ((do let r <- Op.unary op v; pure (Next.value r):Sem Next).run C.P w):=by
 unfold ly
 split
 . simp only [ay] at hx; subst hx
   exact a8 h (by simp only [ay])
 . simp only [ay] at hx; subst hx
   simp only [Op.unary,Op.intArith,ck,cP,cK]
   exact J4 h _ _
 . trivial
def Nu (P:Program) (t:TypeId):Option IntKind:=match P.underlying t with | some (.int k)=>some k | _=>none
def xS (P:Program) (t:TypeId):Bool:=match P.underlying t with
 | some (.slice e)=>match P.underlying e with
   | some (.int .u8)=>true
   | _=>false
 | _=>false
theorem GL {P:Program} {t:TypeId} (h:xS P t=true):∃ e,P.underlying t=some (.slice e)/\P.underlying e=some (.int .u8):=by
 unfold xS at h
 split at h
 . rename_i e he
   split at h
   . rename_i hu; exact ⟨e,he,hu⟩
   . cases h
 . cases h
def GU (P:Program) (src dst:TypeId) (x:AV):aC :=
 match Nu P dst,(P.underlying src).isSome,x with
 | some .i64,true,.int _ n=>.cond (wm n) (.val (.int .i64 n))
 | some k,true,.int _ n=>.val (.int k (k.wrap n))
 | none,true,.str s=>if oC P dst=true/\oC P src=true then .val (.str s) else
   if xS P dst=true/\oC P src=true then .cond (s.length <= 4294967296) (.val (.vec s.length .jc (s.map fun b=>.int .u8 b.toNat))) else .bad
 | _,_,_=>.bad
theorem GO (h:bo g U w) {src dst e:TypeId} {s:List UInt8} (hd:C.P.underlying dst=some (.slice e)) (he:C.P.underlying e=some (.int .u8)) (hs:C.P.underlying src=some .string) (hlen:s.length <= 4294967296) :
 aC.Fits C g U (.val (.vec s.length .jc (s.map fun b=>.int .u8 b.toNat))) ((do let r <- convert src dst (.string ⟨s.toArray⟩); pure (Next.value r):Sem Next).run C.P w):=by
 have ix:=Lib.run_convert_string_bytes (P:=C.P) w src dst e ⟨s.toArray⟩ hs hd he
 have fh:(ByteArray.mk s.toArray).size=s.length:=by simp [ByteArray.size]
 rw [fh] at ix
 have lI:=grownCap_ge w s.length 0 e
 have hle:=grownCap_le_maxLen w s.length 0 e (by unfold maxLen; omega)
 let vs:List Value:=s.map fun b=>.int .u8 b.toNat
 let g':Gh:={ g with ct:=fun aF o=>if aF=w.heap.size then vs[o]? else g.ct aF o }
 have qx:∀ o,g'.ct w.heap.size o=vs[o]?:=fun o=>by show (if w.heap.size=w.heap.size then _ else _)=_; rw [if_pos rfl]
 have hold:∀ aF o,aF ≠ w.heap.size->g'.ct aF o=g.ct aF o:=fun aF o hx=>by show (if aF=w.heap.size then _ else _)=_; rw [if_neg hx]
 have Ni:Gh.Le g g':=⟨rfl,rfl,fun _ _ h=>h,fun aF o u hu=>by
  rw [hold _ _ (fun e=>by subst e; rw [h.AE (bT _)] at hu; cases hu)]; exact hu,fun _ _ h=>h,fun _ h=>h,fun q o hq=>hold _ _ (by have:=h.le; omega),fun _ _=>rfl⟩
 have eU:bo g' U (Lib.bytesWorld w e ⟨s.toArray⟩):=by
  refine h.change w.heap.size h.le Ni rfl rfl ⟨rfl,rfl,rfl,by rw [Lib.bytesWorld_size]; omega⟩ (fun k _ hk=>Lib.bytesWorld_at_old w e _ k hk) hold (fun _ _=>rfl) (fun o u hu=>?_) (fun es c hr=>?_) (fun b x p k1 k2=>Nat.ne_of_lt (h.yd k1 k2)) (h.EJ (bT _))
  . rw [qx] at hu
    simp only [vs,nE,pV] at hu
    obtain ⟨b,hb,rfl⟩:=hu
    have aQ:=(dC.1 hb).1
    refine ⟨?_,rfl⟩
    rw [Lib.bytesWorld_cell w e ⟨s.toArray⟩ o (by rw [fh]; exact aQ)]
    simp [List.getD,hb]
  . have:g.bY w.heap.size=some (es,c):=hr
    rw [h.xN (bT _)] at this; cases this
 simp only [ck,ix,cK,cP]
 refine ⟨_,_,g',.inl rfl,Ni,eU,?_⟩
 simp only [ay]
 refine ⟨w.heap.size,0,_,vs,rfl,lI,hle,trivial,fun i u hu=>by rw [df,qx]; exact hu,?_⟩
 refine aD.Ds (by simp [vs]) fun i x v hx hv=>?_
 simp only [vs,nE,pV] at hx hv
 obtain ⟨b,hb,rfl⟩:=hx
 obtain ⟨b',fC,rfl⟩:=hv
 rw [hb] at fC; cases fC
 simp only [ay]
theorem ML (h:bo g U w) {src dst:TypeId} {x:AV} {v:Value} (hx:ay g x v):aC.Fits C g U (GU C.P src dst x) ((do let r <- convert src dst v; pure (Next.value r):Sem Next).run C.P w):=by
 unfold GU
 split
 . rename_i k n hk hs
   simp only [ay] at hx; subst hx
   have hu:C.P.underlying dst=some (.int .i64):=by unfold Nu at hk; split at hk <;> simp_all
   obtain ⟨d,hd⟩:=Option.isSome_iff_exists.1 hs
   intro hi
   simp only [convert,run_underlying hu,run_underlying hd,ck,cP,cK,Conv.intToInt]
   rw [yI hi]
   exact a8 h (by simp only [ay])
 . rename_i k _ n _ hk hs
   simp only [ay] at hx; subst hx
   have hu:C.P.underlying dst=some (.int k):=by unfold Nu at hk; split at hk <;> simp_all
   obtain ⟨d,hd⟩:=Option.isSome_iff_exists.1 hs
   simp only [convert,run_underlying hu,run_underlying hd,ck,cP,cK,Conv.intToInt]
   exact a8 h (by simp only [ay])
 . split
   . rename_i hc
     simp only [ay] at hx; subst hx
     simp only [convert,run_underlying (qd hc.1),run_underlying (qd hc.2),ck,cP,cK]
     exact a8 h (by simp only [ay])
   . split
     . rename_i hc
       intro hlen
       simp only [ay] at hx; subst hx
       obtain ⟨e,hd,he⟩:=GL hc.1
       exact GO h hd he (qd hc.2) hlen
     . trivial
 . trivial
def zM (P:Program) (t:TypeId):Bool:=match P.underlying t with | some (.interface _)=>false | some _=>true | none=>false
def x8 (P:Program) (t:TypeId) (x:AV):aC:=if zM P t=true then .val (.iface t x) else .bad
theorem Dj (h:bo g U w) {t:TypeId} {x:AV} {v:Value} (hx:ay g x v):aC.Fits C g U (x8 C.P t x) ((do let r <- Instr.makeInterface t v; pure (Next.value r):Sem Next).run C.P w):=by
 unfold x8
 split
 . rename_i hc
   unfold zM at hc
   split at hc
   . cases hc
   . rename_i d hn hd
     simp only [Instr.makeInterface,run_underlying hd,ck,cK]
     cases d
     case interface=>exact (hn _ rfl).elim
     all_goals
      simp only [cP,cK]
      exact a8 h (by simp only [ay]; exact ⟨v,rfl,hx⟩)
   . cases hc
 . trivial
def aX (x:AV) (i:Nat):aC :=
 match x with
 | .aH l=>jf (l.drop i)
 | _=>.bad
theorem GI (h:bo g U w) {x:AV} {v:Value} (hx:ay g x v) (i:Nat):aC.Fits C g U (aX x i) ((do let r <- Instr.extract v i; pure (Next.value r):Sem Next).run C.P w):=by
 unfold aX
 split
 . rename_i l
   simp only [ay] at hx
   obtain ⟨vs,rfl,hr⟩:=hx
   cases hd:l.drop i with
   | nil=>trivial
   | cons y ys =>
     have hy:l[i]?=some y:=by
      have:=congrArg (fun l=>l[0]?) hd
      simpa using this
     obtain ⟨u,hu,hyu⟩:=hr.get hy
     have e:vs.toArray[i]?=some u:=by simpa using hu
     simp only [Instr.extract,e,ck,cP,cK]
     exact a8 h hyu
 . trivial
def uG (x:AV):aC :=
 match x with
 | .iface t v=>.panic (.iface t v)
 | _=>.bad
theorem KF (h:bo g U w) {x:AV} {v:Value} (hx:ay g x v):aC.Fits C g U (uG x) ((do let r <- Instr.panic v; pure (Next.value r):Sem Next).run C.P w):=by
 unfold uG
 split
 . have mv:=hx
   simp only [ay] at hx
   obtain ⟨u,rfl,hu⟩:=hx
   simp only [Instr.panic,ck,run_goPanic,Result.andThen_halt]
   exact ⟨_,w,rfl,h,mv⟩
 . trivial
theorem EB (h:bo g U w) {ev:Operand->Value} {o:Oper} {X:Operand} {x:AV} (ho:o.op=.nilCheck X) (hx:ay g x (ev X)):aC.Fits C g U (aV x) ((execOp ev o).run C.P w):=by
 unfold aV
 split
 . have mv:=hx
   simp only [ay] at hx
   obtain ⟨y,_,hv⟩:=hx
   simp only [execOp,ho,hv,cP]
   rw [hv] at mv
   exact a8 h mv
 . have mv:=hx
   simp only [ay] at hx
   obtain ⟨_,_,_,hv,_⟩:=hx
   simp only [execOp,ho,hv,cP]
   rw [hv] at mv
   exact a8 h mv
 . have mv:=hx
   simp only [ay] at hx
   obtain ⟨_,_,hv,_⟩:=hx
   simp only [execOp,ho,hv,cP]
   rw [hv] at mv
   exact a8 h mv
 . trivial
def NC (P:Program) (t:TypeId):Option Bool :=
 match P.underlying t with
 | some .string=>some true
 | some (.slice _)=>some false
 | _=>none
def IY (P:Program) (t:TypeId) (x:AV) (U:St):aC :=
 match NC P t,x with
 | some true,.str s=>.val (.int .i64 s.length)
 | some false,.vec n _ _=>.val (.int .i64 n)
 | some false,.ms _ _ n _ _=>.val (.int .i64 n)
 | some false,.aq=>.val (.int .i64 0)
 | _,_=>.bad
theorem vg {P:Program} {t:TypeId} {b:Bool} (h:NC P t=some b):(b=true/\P.underlying t=some .string)\/(b=false/\∃ e,P.underlying t=some (.slice e)):=by
 unfold NC at h
 split at h
 . rename_i e; simp at h; exact .inl ⟨h,e⟩
 . rename_i e' e; simp at h; exact .inr ⟨h,_,e⟩
 . cases h
theorem Qg (h:bo g U w) {t ty:TypeId} {x:AV} {v:Value} (hx:ay g x v):aC.Fits C g U (IY C.P t x U) ((do let r <- Builtin.len_ #[t] ty #[v]; pure (Next.value r):Sem Next).run C.P w):=by
 unfold IY
 split
 . rename_i s IE
   have hu:C.P.underlying t=some .string:=by rcases vg IE with ⟨_,h⟩ | ⟨h,_⟩ <;> first | exact h | cases h
   simp only [ay] at hx; subst hx
   have fh:(ByteArray.mk s.toArray).size=s.length:=by simp [ByteArray.size]
   simp [Builtin.len_,run_underlying hu,goInt,fh]
   exact a8 h (by simp only [ay])
 . rename_i IE
   obtain ⟨e0,hu⟩:∃ e,C.P.underlying t=some (.slice e):=by rcases vg IE with ⟨h,_⟩ | ⟨_,h⟩ <;> first | exact h | cases h
   simp only [ay] at hx
   obtain ⟨_,_,_,_,rfl,_⟩:=hx
   simp [Builtin.len_,run_underlying hu,goInt]
   exact a8 h (by simp only [ay])
 . rename_i IE
   obtain ⟨e0,hu⟩:∃ e,C.P.underlying t=some (.slice e):=by rcases vg IE with ⟨h,_⟩ | ⟨_,h⟩ <;> first | exact h | cases h
   simp only [ay] at hx
   obtain ⟨_,_,_,rfl,_⟩:=hx
   simp [Builtin.len_,run_underlying hu,goInt]
   exact a8 h (by simp only [ay])
 . rename_i IE
   obtain ⟨e0,hu⟩:∃ e,C.P.underlying t=some (.slice e):=by rcases vg IE with ⟨h,_⟩ | ⟨_,h⟩ <;> first | exact h | cases h
   simp only [ay] at hx; subst hx
   simp [Builtin.len_,run_underlying hu,goInt]
   exact a8 h (by simp only [ay])
 . trivial
def zJ (x y:AV):aC :=
 match x,y with
 | .int k a,.int k' b=>if k=k' then .val (.int k (if b < a then b else a)) else .bad
 | _,_=>.bad
def Cc (x y:AV):aC :=
 match x,y with
 | .int k a,.int k' b=>if k=k' then .val (.int k (if b > a then b else a)) else .bad
 | _,_=>.bad
theorem Qk (h:bo g U w) {ts:Array TypeId} {ty:TypeId} {x y:AV} {v u:Value} (hx:ay g x v) (hy:ay g y u):aC.Fits C g U (Cc x y) ((do let r <- Builtin.max_ ts ty #[v,u]; pure (Next.value r):Sem Next).run C.P w):=by
 unfold Cc
 split
 . split
   . rename_i e; subst e
     simp only [ay] at hx hy; subst hx hy
     simp [Builtin.max_,Builtin.max2]
     exact a8 h (by simp only [ay])
   . trivial
 . trivial
theorem Ql (h:bo g U w) {ts:Array TypeId} {ty:TypeId} {x y:AV} {v u:Value} (hx:ay g x v) (hy:ay g y u):aC.Fits C g U (zJ x y) ((do let r <- Builtin.min_ ts ty #[v,u]; pure (Next.value r):Sem Next).run C.P w):=by
 unfold zJ
 split
 . split
   . rename_i e; subst e
     simp only [ay] at hx hy; subst hx hy
     simp [Builtin.min_,Builtin.min2]
     exact a8 h (by simp only [ay])
   . trivial
 . trivial
end
end Go.Rip
namespace Go.Rip
open Go.RowKit
section
variable {C:cS} {g:Gh} {U:St} {w:World}
def gI (place:Nat->Option (Nat × Nat)):List (Nat × AV)->List AV->(List AV->aC)->aC
 | [],z,k=>k z
 | (i,x)::rest,z,k=>match place i with
   | some (off,size)=>.cond (x.dh=true/\(ax x).length=size/\off+size <= z.length) (gI place rest (aA z off (ax x)) k)
   | none=>.bad
theorem zm (off:Nat):∀ (l:List Value) (j:Nat) (cs:Array Value),off+j+l.length <= cs.size ->
 ((l.zipIdx j).foldl (fun (cs:Array Value) (p:Value × Nat)=>cs.setIfInBounds (off+p.2) p.1) cs).toList=cs.toList.take (off+j)++l++cs.toList.drop (off+j+l.length)
 | [],j,cs,_=>by simp
 | v::l,j,cs,hle=>by
   simp only [List.zipIdx_cons,List.foldl_cons]
   simp only [fm] at hle
   rw [zm off l (j+1) _ (by simp; omega)]
   have hs:=list_seg_step cs.toList (off+j) v l (by simpa using hle)
   rw [Array.toList_setIfInBounds]
   rw [show off+(j+1)=off+j+1 from rfl]
   exact hs
theorem u5 {place:Nat->Option (Nat × Nat)} {k:List AV->aC} {kk:Array Value->Sem Value} {S:String}
 (hk:∀ (z:List AV) (cs:Array Value),aD g z cs.toList->(∀ u ∈ cs.toList,u.oneCell'=true)->aC.Fits C g U (k z) ((do let r <- kk cs; pure (Next.value r):Sem Next).run C.P w)) :
 ∀ (parts:List (Nat × AV)) (vs:List (Nat × Value)) (z:List AV) (cs:Array Value),vs.length=parts.length->(∀ (i:Nat) (p:Nat × AV) (q:Nat × Value),parts[i]?=some p->vs[i]?=some q->p.1=q.1/\ay g p.2 q.2) ->
  aD g z cs.toList->(∀ u ∈ cs.toList,u.oneCell'=true) ->
  aC.Fits C g U (gI place parts z k) ((do let r <- (match Instr.fill place cs vs with | some CL=>kk CL | none=>stuck S); pure (Next.value r):Sem Next).run C.P w)
 | [],[],z,cs,_,_,hz,h1=>by
   simp only [gI,Instr.fill]
   exact hk z cs hz h1
 | [],_::_,_,_,h,_,_,_=>by simp at h
 | _::_,[],_,_,h,_,_,_=>by simp at h
 | (i,x)::parts,(j,v)::vs,z,cs,hl,hp,hz,h1=>by
   obtain ⟨rfl,hx⟩:=hp 0 _ _ rfl rfl
   dsimp only at hx ⊢
   simp only [gI]
   cases nx:place i with
   | none=>trivial
   | some os =>
     obtain ⟨off,size⟩:=os
     rintro ⟨a1,a2,a3⟩
     obtain ⟨wI,Bi⟩:=zc hx a1
     have hlen:=wI.length
     have IH:=hz.length
     have zC:v.cells.size=size:=by rw [<- tp,hlen,a2]
     have hcz:off+v.cells.size <= cs.size:=by rw [zC,<- tp,IH]; exact a3
     have e:(v.cells.zipIdx.foldl (fun (cs:Array Value) (p:Value × Nat)=>cs.setIfInBounds (off+p.2) p.1) cs).toList=cs.toList.take off++v.cells.toList++cs.toList.drop (off+v.cells.toList.length):=by
      rw [<- Array.foldl_toList,Array.toList_zipIdx]
      have:=zm off v.cells.toList 0 cs (by simpa using hcz)
      simpa using this
     have adO:(v.cells.size ≠ size || off+v.cells.size > cs.size)=false:=by simp [zC]; omega
     simp only [Instr.fill,nx]
     rw [if_neg (by rw [adO]; simp)]
     refine u5 hk parts vs _ _ (by simpa using hl) (fun i p q h2 h3=>hp (i+1) p q (by simpa using h2) (by simpa using h3)) ?_ ?_
     . show aD g (aA z off (ax x)) (v.cells.zipIdx.foldl (fun (cs:Array Value) (p:Value × Nat)=>cs.setIfInBounds (off+p.2) p.1) cs).toList
       rw [e]
       unfold aA
       rw [hlen]
       exact ((hz.take _).append wI).append (hz.drop _)
     . show ∀ u ∈ (v.cells.zipIdx.foldl (fun (cs:Array Value) (p:Value × Nat)=>cs.setIfInBounds (off+p.2) p.1) cs).toList,u.oneCell'=true
       rw [e]
       intro u hu
       simp only [gu] at hu
       rcases hu with (hu | hu) | hu
       . exact h1 u (List.mem_of_mem_take hu)
       . exact Bi u hu
       . exact h1 u (List.mem_of_mem_drop hu)
def nv (C:cS) (ρ:Env) (parts:Array (Nat × Operand)):List (Nat × AV):=parts.toList.map fun p=>(p.1,ρ.ev C p.2)
def Hy (P:Program) (t:TypeId) (parts:List (Nat × AV)):aC :=
 match AW P t,qt P t with
 | some pl,some z=>gI (fun i=>pl[i]?) parts z fun z=>.val (.agg z)
 | none,some z=>match vO P t with
   | some (_,_,sz)=>gI (fun i=>some (i * sz,sz)) parts z fun z=>.val (.agg z)
   | none=>.bad
 | _,_=>.bad
theorem JO {P:Program} {t:TypeId} {pl:List (Nat × Nat)} (h:AW P t=some pl):∃ fs:Array Field,P.underlying t=some (.struct fs)/\pl=fs.toList.map (fun f=>(f.offset,P.cellsOf f.type)) /\
 (fs.mapM (fun f=>do pure (f.offset,<- sizeOf f.type):Field->Sem (Nat × Nat))).run P w=.ok pl.toArray w:=by
 unfold AW at h
 split at h
 . rename_i fs hu
   split at h
   . rename_i cm
     simp only [ji] at h
     refine ⟨fs,hu,h.symm,?_⟩
     rw [Array.mapM_eq_mapM_toList]
     rw [Array.all_eq_true_iff_forall_mem] at cm
     have key:∀ l:List Field,(∀ f ∈ l,(P.info? f.type).isSome=true)->(l.mapM (fun f=>do pure (f.offset,<- sizeOf f.type):Field->Sem (Nat × Nat))).run P w=.ok (l.map fun f=>(f.offset,P.cellsOf f.type)) w:=by
      intro l
      induction l with
      | nil=>intro _; simp
      | cons f l ih =>
        intro hf
        obtain ⟨i,hi⟩:=Option.isSome_iff_exists.1 (hf f (by simp))
        have ih':=ih fun x hx=>hf x (by simp [hx])
        have hc:P.cellsOf f.type=i.size:=by simp [Program.cellsOf,hi]
        simp only [List.mapM_cons,ck,fg hi,cK,cP,ih',eh,hc]
     have:=key fs.toList (fun f hf=>cm f (by simpa using hf))
     simp only [Sem.run_map,this,cK,h]
   . cases h
 . cases h
theorem J7 (h:bo g U w) {t:TypeId} {parts:List (Nat × AV)} {vs:Array (Nat × Value)} (hl:vs.size=parts.length) (hp:∀ (i:Nat) (p:Nat × AV) (q:Nat × Value),parts[i]?=some p->vs[i]?=some q->p.1=q.1/\ay g p.2 q.2) :
 aC.Fits C g U (Hy C.P t parts) ((do let r <- Instr.build t vs; pure (Next.value r):Sem Next).run C.P w):=by
 unfold Hy
 split
 . rename_i pl z hs hz
   obtain ⟨fs,hu,nx,ix⟩:=JO (w:=w) hs
   obtain ⟨i,zv,hi,uz,hm⟩:=oy hz
   obtain ⟨h1,h2⟩:=ff (g:=g) hm
   have key:=u5 (C:=C) (g:=g) (U:=U) (w:=w) (place:=fun i=>pl.toArray[i]?) (k:=fun z=>.val (.agg z)) (kk:=fun cs=>pure (.agg cs)) (S := "build: no such field, or a part of the wrong size") (fun z cs hz h1=>by
    simp only [ck,cP,cK]
    exact a8 h (by simp only [ay]; exact ⟨cs.toList,by simp,h1,hz⟩)) parts vs.toList z zv.cells (by simpa using hl) (fun i p q h1 h2=>hp i p q h1 (by simpa using h2)) h1 h2
   have e:(fun i:Nat=>pl.toArray[i]?)=fun i=>pl[i]?:=by funext i; simp
   rw [<- e]
   simp only [Instr.build,ck,gX hi uz,cK,run_underlying hu,ix]
   cases hf:Instr.fill (fun i:Nat=>pl.toArray[i]?) zv.cells vs.toList with
   | none=>simp only [hf,ck,run_stuck,Result.andThen_halt] at key ⊢; exact key
   | some CL=>simp only [hf,ck,cP,cK] at key ⊢; exact key
 . rename_i z hs hz
   split
   . rename_i n e sz ha
     obtain ⟨ie,hu,hie,fh⟩:=uX ha
     obtain ⟨i,zv,hi,uz,hm⟩:=oy hz
     obtain ⟨h1,h2⟩:=ff (g:=g) hm
     have key:=u5 (C:=C) (g:=g) (U:=U) (w:=w) (place:=fun i=>some (i * sz,sz)) (k:=fun z=>.val (.agg z)) (kk:=fun cs=>pure (.agg cs)) (S := "build: a part of the wrong size") (fun z cs hz h1=>by
      simp only [ck,cP,cK]
      exact a8 h (by simp only [ay]; exact ⟨cs.toList,by simp,h1,hz⟩)) parts vs.toList z zv.cells (by simpa using hl) (fun i p q h1 h2=>hp i p q h1 (by simpa using h2)) h1 h2
     simp only [Instr.build,ck,gX hi uz,cK,run_underlying hu,fg hie,fh]
     cases hf:Instr.fill (fun i:Nat=>some (i * sz,sz)) zv.cells vs.toList with
     | none=>simp only [hf,ck,run_stuck,Result.andThen_halt] at key ⊢; exact key
     | some CL=>simp only [hf,ck,cP,cK] at key ⊢; exact key
   . trivial
 . trivial
end
end Go.Rip
namespace Go.Rip
open Go.RowKit
section
variable {C:cS} {g:Gh} {U:St} {w:World}
def bO:Nat->List AV->List AV
 | 0,_=>[]
 | n+1,z=>z++bO n z
theorem mf (z:List AV):∀ n,(bO n z).length=n * z.length
 | 0=>by simp [bO]
 | n+1=>by simp [bO,mf z n,Nat.add_mul]; omega
theorem tW {z:List AV} {zv:Array Value} (hz:aD g z zv.toList):∀ n,aD g (bO n z) ((Array.range (n * zv.size)).map (zv[· % zv.size]!)).toList:=fun n=>by
 have hl:z.length=zv.size:=by rw [<- hz.length]; simp
 refine aD.Ds (by simp [mf,hl]) fun i x v hx hv=>?_
 have key:∀ n i x,(bO n z)[i]?=some x->z[i % zv.size]?=some x:=fun n=>by
  induction n with
  | zero=>intro i x hx; simp [bO] at hx
  | succ n ih =>
    intro i x hx
    simp only [bO] at hx
    by_cases hi:i < z.length
    . rw [wc hi] at hx
      rw [Nat.mod_eq_of_lt (by omega)]; exact hx
    . rw [List.getElem?_append_right (by omega)] at hx
      have:=ih _ _ hx
      rw [hl,<- Nat.mod_eq_sub_mod (by omega)] at this
      exact this
 have mv:=key n i x hx
 obtain ⟨u,hu,hr⟩:=hz.get mv
 simp only [Array.toList_map,nE,pV] at hv
 obtain ⟨j,hj,rfl⟩:=hv
 have Ln:j=i:=by
  rw [lO,Array.getElem?_range] at hj
  split at hj
  . simp at hj; exact hj.symm
  . cases hj
 subst Ln
 have aQ:j % zv.size < zv.size:=by
  have:=(dC.1 hu).1
  simpa using this
 rw [getElem!_pos zv _ aQ]
 rw [lO,getElem?_pos zv _ aQ] at hu
 cases hu
 exact hr
def sG (P:Program) (t:TypeId) (n:Nat) (mu:Bool) (parts:List (Nat × AV)):aC :=
 match fJ P t with
 | some (e,sz)=>match qt P e with
   | some z=>.cond (n * sz <= 16777216) (gI (fun i=>some (i * sz,sz)) parts (bO n z) fun cs=>.cond (cs.length=n * sz) (if mu then .pF n sz e none cs else .val (.vec n .full cs)))
   | none=>.bad
 | none=>.bad
theorem BX (h:bo g U w) {t:TypeId} {n:Nat} {mu:Bool} {parts:List (Nat × AV)} {vs:Array (Nat × Value)} (hl:vs.size=parts.length) (hp:∀ (i:Nat) (p:Nat × AV) (q:Nat × Value),parts[i]?=some p->vs[i]?=some q->p.1=q.1/\ay g p.2 q.2) :
 aC.Fits C g U (sG C.P t n mu parts) ((do let r <- Instr.buildSlice t n vs; pure (Next.value r):Sem Next).run C.P w):=by
 unfold sG
 split
 . rename_i e sz hs
   split
   . rename_i z hz
     intro hn
     obtain ⟨i,zv,hu,hi,pj,wQ,rfl,oT,_,h1⟩:=jl hs
     obtain ⟨i',zv',lJ,uz,hm⟩:=oy hz
     rw [hi] at lJ; cases lJ
     rw [pj] at uz; cases uz
     obtain ⟨h1,h2⟩:=ff (g:=g) hm
     have Iu:¬ (n * i.size > 2 ^ 24):=by omega
     have hzc:=tW (g:=g) h1 n
     have key:=u5 (C:=C) (g:=g) (U:=U) (w:=w) (place:=fun j=>some (j * i.size,i.size)) (k:=fun cs=>.cond (cs.length=n * i.size) (if mu then .pF n i.size e none cs else .val (.vec n .full cs)))
      (kk:=fun cs=>do pure (.slice (some (<- newRow e cs)) n n)) (S := "buildSlice: a part of the wrong size") (fun z cs hz wI=>by
      intro hlen
      have wK:cs.size=n * i.size:=by rw [<- tp,hz.length,hlen]
      have Fx:n <= maxLen:=by
       have:n <= n * i.size:=Nat.le_mul_of_pos_right _ oT
       unfold maxLen; omega
      simp only [newRow,ck,cP,run_newObj,cK]
      split
      . have:=rk (C:=C) (del:=none) (e:=e) (sz:=i.size) (n:=n) (c:=n) h (vs:=cs.toList) (rest:=[]) hz wI (by simp) (by simp [wK]) (bT _) Fx
        simpa using this
      . obtain ⟨g',hle,oS,_,_,eU⟩:=h.Qp e cs cs.toList [] (by simp) wI
        refine ⟨_,_,g',.inl rfl,hle,eU,?_⟩
        simp only [ay]
        exact ⟨w.heap.size,0,n,cs.toList,rfl,bT _,Fx,rfl,oS,hz.mono hle⟩) parts vs.toList (bO n z) ((Array.range (n * zv.cells.size)).map (zv.cells[· % zv.cells.size]!)) (by simpa using hl) (fun i p q h1 h2=>hp i p q h1 (by simpa using h2)) hzc (by
        intro u hu
        simp only [Array.toList_map,List.mem_map] at hu
        obtain ⟨j,_,rfl⟩:=hu
        have aQ:j % zv.cells.size < zv.cells.size:=Nat.mod_lt _ (by omega)
        rw [getElem!_pos zv.cells _ aQ]
        exact h2 _ (by simp))
     simp only [Instr.buildSlice,ck,run_underlying hu,fg hi,cK,if_neg Iu,fE,gX hi pj,cP]
     by_cases h0:n * i.size=0
     . have C4:n=0:=by
        rcases Nat.mul_eq_zero.1 h0 with h | h
        . exact h
        . omega
       subst C4
       simp only [Nat.zero_mul,if_true,cK] at key ⊢
       have e1:(Array.range 0).map ((#[]:Array Value)[· % (#[]:Array Value).size]!)=(Array.range 0).map (zv.cells[· % zv.cells.size]!):=by simp
       rw [e1]
       cases hf:Instr.fill (fun j=>some (j * i.size,i.size)) ((Array.range 0).map (zv.cells[· % zv.cells.size]!)) vs.toList with
       | none=>simp only [hf,ck,run_stuck,Result.andThen_halt] at key ⊢; exact key
       | some CL=>simp only [hf,ck,cP,cK] at key ⊢; exact key
     . simp only [if_neg h0,cK]
       rw [wQ] at key ⊢
       cases hf:Instr.fill (fun j=>some (j * i.size,i.size)) ((Array.range (n * i.size)).map (zv.cells[· % i.size]!)) vs.toList with
       | none=>simp only [hf,ck,run_stuck,Result.andThen_halt] at key ⊢; exact key
       | some CL=>simp only [hf,ck,cP,cK] at key ⊢; exact key
   . trivial
 . trivial
def rz (P:Program) (t:TypeId):Option (FK × TypeId) :=
 match P.underlying t with
 | some (.map k e)=>match P.underlying k with
   | some (.int _)=>some (.i,e)
   | some .string=>some (.s,e)
   | _=>none
 | _=>none
def iy:FK->AV->AV->Option Bool
 | .i,.int k a,.int k' b=>if k=k' then some (a == b) else none
 | .s,.str a,.str b=>some (a == b)
 | _,_,_=>none
def ql:FK->AV->Bool
 | .i,.int _ _=>true
 | .s,.str _=>true
 | _,_=>false
def ml (fk:FK) (k:AV):List AV->Nat->Option (Option Nat)
 | [],_=>some none
 | y::ys,i=>match iy fk k y with
   | none=>none
   | some b=>if b=true then some (some i) else ml fk k ys (i+1)
def gV (k v:AV):List AV->List AV->List AV × List AV
 | [],_=>([k],[v])
 | y::ys,ws=>if ke k y=true then (k::y::ys,v::ws) else
   match ws with
   | []=>([k],[v])
   | x::xs=>(y::(gV k v ys xs).1,x::(gV k v ys xs).2)
def rA (P:Program) (t:TypeId) (m k v:AV) (U:St):aC :=
 match rz P t,m with
 | some (fk,_),.mp id=>match U.mp id with
   | some (ks,vs)=>match ml fk k ks 0,ql fk k with
     | some none,true=>.jd (.aH []) id (.mp (gV k v ks vs).1 (gV k v ks vs).2)
     | some (some i),true=>.jd (.aH []) id (.mp ks (vs.set i v))
     | _,_=>.bad
   | none=>.bad
 | _,_=>.bad
def kH (U:St):AV->Option (List AV × List AV)
 | .mp id=>U.mp id
 | .ga ks vs=>some (ks,vs)
 | .jO=>some ([],[])
 | _=>none
def oe (fk:FK) (k:AV) (zh:AV) (ok:Bool):List AV->List AV->aC
 | y::ys,v::vs=>match iy fk k y with
   | none=>.bad
   | some b=>if b=true then .val (if ok then .aH [v,.bool true] else v) else oe fk k zh ok ys vs
 | _,_=>.val (if ok then .aH [zh,.bool false] else zh)
def zeroV (P:Program) (t:TypeId):Option AV:=((P.info? t).bind (·.zero)).map Fg
def wY (P:Program) (t:TypeId) (m k:AV) (ok:Bool) (U:St):aC :=
 match rz P t,kH U m with
 | some (fk,e),some (ks,vs)=>match zeroV P e,ql fk k with
   | some z,true=>oe fk k z ok ks vs
   | _,_=>.bad
 | _,_=>.bad
theorem zI {P:Program} {t e:TypeId} {fk:FK} (h:rz P t=some (fk,e)):∃ k,P.underlying t=some (.map k e)/\((fk=.i/\∃ q,P.underlying k=some (.int q))\/(fk=.s/\P.underlying k=some .string)):=by
 unfold rz at h
 split at h
 . rename_i k e' hu
   split at h
   . rename_i q hq
     simp only [ji,gL] at h
     obtain ⟨rfl,rfl⟩:=h
     exact ⟨k,hu,.inl ⟨rfl,q,hq⟩⟩
   . rename_i hq
     simp only [ji,gL] at h
     obtain ⟨rfl,rfl⟩:=h
     exact ⟨k,hu,.inr ⟨rfl,hq⟩⟩
   . cases h
 . cases h
theorem tO {P:Program} {k:TypeId} {fk:FK} {d:TypeDesc} (hd:P.underlying k=some d) (hk:(fk=.i/\∃ q,d=.int q)\/(fk=.s/\d=.string)) {x y:AV} {u v:Value} {b:Bool} (hx:ay g x u) (hy:ay g y v) (h:iy fk x y=some b) :
 Instr.sameNow d u v=some b:=by
 rcases hk with ⟨rfl,q,rfl⟩ | ⟨rfl,rfl⟩ <;> cases x <;> cases y <;> simp only [iy,reduceCtorEq] at h
 . split at h
   . rename_i e; subst e
     simp only [ay] at hx hy; subst hx hy
     simp at h; subst h
     simp [Instr.sameNow]
   . cases h
 . simp only [ay] at hx hy; subst hx hy
   simp only [ji] at h; subst h
   simp only [Instr.sameNow,beq_toListBytes,ByteArray.toList_eq,List.toList_toArray]
theorem findNow_spec {d:TypeDesc} {u:Value}:∀ (es:List MapEntry) (i:Nat),(∀ e ∈ es,∃ b,Instr.sameNow d u e.key=some b) ->
 ((∀ e ∈ es,Instr.sameNow d u e.key=some false)/\Instr.findNow d u es i=some none) \/
 (∃ j e,es[j]?=some e/\Instr.sameNow d u e.key=some true/\Instr.findNow d u es i=some (some (i+j,e.val)))
 | [],i,_=>.inl ⟨by simp,by simp [Instr.findNow]⟩
 | e::es,i,h=>by
   obtain ⟨b,hb⟩:=h e (by simp)
   cases b
   . rcases findNow_spec es (i+1) (fun x hx=>h x (by simp [hx])) with ⟨h1,h2⟩ | ⟨j,e',h1,h2,h3⟩
     . refine .inl ⟨fun x hx=>?_,by simp [Instr.findNow,hb,h2]⟩
       rcases cJ.1 hx with rfl | hx
       . exact hb
       . exact h1 x hx
     . exact .inr ⟨j+1,e',by simpa using h1,h2,by simp [Instr.findNow,hb,h3]; omega⟩
   . exact .inr ⟨0,e,by simp,hb,by simp [Instr.findNow,hb]⟩
theorem vV {fk:FK} {k y:AV} (h:iy fk k y=some true):k=y:=by
 cases fk <;> cases k <;> cases y <;> simp only [iy,reduceCtorEq] at h
 . split at h
   . rename_i e; subst e; simp at h; rw [h]
   . cases h
 . simp at h; rw [h]
theorem Ny (k:AV):ke k k=false:=by
 cases k <;> simp [ke]
theorem Kx {a b c:AV} (h:ke a b=true) (h':ke b c=true):ke a c=true:=by
 cases a <;> cases b <;> simp only [ke,bQ] at h <;> cases c <;> simp only [ke,bQ,bS,ee] at h h' ⊢
 . exact ⟨h.1.trans h'.1,by omega⟩
 . exact List.lt_trans h h'
theorem UP {fk:FK} {k y:AV} (h:iy fk k y=some false):ke k y=true\/ke y k=true:=by
 cases fk <;> cases k <;> cases y <;> simp only [iy,reduceCtorEq] at h
 . split at h
   . rename_i e; subst e; simp at h; simp [ke]; omega
   . cases h
 . simp at h
   simp only [ke,ee]
   rcases Classical.em ((_:List UInt8) < _) with hl | hl
   . exact .inl hl
   . refine .inr ?_
     rcases Classical.em ((_:List UInt8) < _) with rT | rT
     . exact rT
     . exact absurd (List.le_antisymm (List.not_lt.1 rT) (List.not_lt.1 hl)) h
theorem Dd {fk:FK} {k y z:AV} (h:iy fk k y=some true) (hz:ke y z=true\/ke z y=true):∃ b,iy fk k z=some b:=by
 have:=vV h
 subst this
 cases fk <;> cases k <;> cases z <;> simp [iy,ke] at h hz ⊢
 rcases hz with ⟨e,_⟩ | ⟨e,_⟩
 . exact e
 . exact e.symm
theorem xI {fk:FK} {k:AV}:∀ {ks:List AV} {s:Nat} {r:Option Nat},ml fk k ks s=some r ->
 (r=none/\∀ y ∈ ks,iy fk k y=some false)\/(∃ i,r=some (s+i)/\∃ y,ks[i]?=some y/\iy fk k y=some true)
 | [],s,r,h=>by simp only [ml,ji] at h; exact .inl ⟨h.symm,by simp⟩
 | y::ys,s,r,h=>by
   simp only [ml] at h
   split at h
   . cases h
   . rename_i b hb
     cases b
     . simp only [bQ,if_false] at h
       rcases xI h with ⟨h1,h2⟩ | ⟨i,h1,z,h2,h3⟩
       . refine .inl ⟨h1,fun z hz=>?_⟩
         rcases cJ.1 hz with rfl | hz
         . exact hb
         . exact h2 z hz
       . exact .inr ⟨i+1,by rw [h1]; congr 1; omega,z,by simpa using h2,h3⟩
     . simp only [if_true,ji] at h
       exact .inr ⟨0,by rw [<- h]; rfl,y,by simp,hb⟩
theorem Oe {ks:List AV} (h:pY ks) {i j:Nat} {y:AV} (hi:ks[i]?=some y) (hj:ks[j]?=some y):i=j:=by
 have key:∀ i j,i < j->ks[i]?=some y->ks[j]?=some y->False:=fun i j fR hi hj=>by
  obtain ⟨h1,h2⟩:=dC.1 hi
  obtain ⟨h3,h4⟩:=dC.1 hj
  have:=List.pairwise_iff_getElem.1 h i j h1 h3 fR
  rw [h2,h4,Ny] at this; cases this
 rcases Nat.lt_trichotomy i j with h | h | h
 . exact (key i j h hi hj).elim
 . exact h
 . exact (key j i h hj hi).elim
theorem B1 {P:Program} {kt:TypeId} {fk:FK} {d:TypeDesc} (hd:P.underlying kt=some d) (hk:(fk=.i/\∃ q,d=.int q)\/(fk=.s/\d=.string)) {x:AV} {u:Value} (hx:ay g x u)
 {ks:List AV} {l es:List MapEntry} (hp:l.Perm es) (hs:pY ks) (hr:aD g ks (l.map (·.key))) {r:Option Nat} (h:ml fk x ks 0=some r) :
 (r=none/\(∀ y ∈ ks,iy fk x y=some false)/\∀ i,Instr.findNow d u es i=some none) \/
 (∃ i j e,r=some i/\ks[i]?=some x/\l[i]?=some e/\es[j]?=some e/\ay g x e.key/\∀ s,Instr.findNow d u es s=some (some (s+j,e.val))):=by
 have mem:∀ e ∈ es,∃ i y,ks[i]?=some y/\l[i]?=some e/\ay g y e.key:=fun e he=>by
  obtain ⟨i,hi⟩:=List.getElem?_of_mem (hp.mem_iff.2 he)
  have aQ:i < ks.length:=by
   have h1:=(dC.1 hi).1
   have:=hr.length
   simp at this; omega
  obtain ⟨v,hv,PO⟩:=hr.get (i:=i) (x:=ks[i]) (pU aQ)
  rw [nE,hi] at hv
  simp at hv
  subst hv
  exact ⟨i,ks[i],pU aQ,hi,PO⟩
 rcases xI h with ⟨rfl,h1⟩ | ⟨i,rfl,y,h1,h2⟩
 . refine .inl ⟨rfl,h1,fun s=>?_⟩
   have hf:∀ e ∈ es,Instr.sameNow d u e.key=some false:=fun e he=>by
    obtain ⟨i,y,hy,_,PV⟩:=mem e he
    exact tO (P:=P) hd hk hx PV (h1 y (gr hy))
   rcases findNow_spec es s (fun e he=>⟨_,hf e he⟩) with ⟨_,h2⟩ | ⟨j,e,q1,q2,_⟩
   . exact h2
   . rw [hf e (gr q1)] at q2; cases q2
 . have PU:=vV h2
   subst PU
   have all:∀ z ∈ ks,∃ b,iy fk x z=some b:=fun z hz=>by
    obtain ⟨j,hj⟩:=List.getElem?_of_mem hz
    rcases Nat.lt_trichotomy i j with fR | fR | fR
    . obtain ⟨a1,a2⟩:=dC.1 h1
      obtain ⟨a3,a4⟩:=dC.1 hj
      have:=List.pairwise_iff_getElem.1 hs i j a1 a3 fR
      rw [a2,a4] at this
      exact Dd h2 (.inl this)
    . subst fR; rw [h1] at hj; cases hj; exact ⟨_,h2⟩
    . obtain ⟨a1,a2⟩:=dC.1 h1
      obtain ⟨a3,a4⟩:=dC.1 hj
      have:=List.pairwise_iff_getElem.1 hs j i a3 a1 fR
      rw [a2,a4] at this
      exact Dd h2 (.inr this)
   have same:∀ e ∈ es,∃ b,Instr.sameNow d u e.key=some b:=fun e he=>by
    obtain ⟨i,y,hy,_,PV⟩:=mem e he
    obtain ⟨b,hb⟩:=all y (gr hy)
    exact ⟨b,tO (P:=P) hd hk hx PV hb⟩
   have Ip:∃ e0,l[i]?=some e0/\ay g x e0.key:=by
    obtain ⟨v,hv,PO⟩:=hr.get h1
    rw [nE,pV] at hv
    obtain ⟨e0,h3,rfl⟩:=hv
    exact ⟨e0,h3,PO⟩
   obtain ⟨e0,vb,abi⟩:=Ip
   have h0s:Instr.sameNow d u e0.key=some true:=tO (P:=P) hd hk hx abi h2
   have h0m:e0 ∈ es:=hp.mem_iff.1 (gr vb)
   have pick:∀ s,∃ j,es[j]?=some e0/\Instr.findNow d u es s=some (some (s+j,e0.val)):=fun s=>by
    rcases findNow_spec es s same with ⟨q1,_⟩ | ⟨j,e,q1,q2,q3⟩
    . rw [q1 e0 h0m] at h0s; cases h0s
    . obtain ⟨i',y,hy,tC,PV⟩:=mem e (gr q1)
      obtain ⟨b,hb⟩:=all y (gr hy)
      have Lw:=tO (P:=P) hd hk hx PV hb
      rw [q2] at Lw
      simp only [ji] at Lw
      subst Lw
      have PU:=vV hb
      subst PU
      have hii:=Oe hs h1 hy
      subst hii
      rw [vb] at tC; cases tC
      exact ⟨j,q1,q3⟩
   obtain ⟨j,hj,hjf⟩:=pick 0
   refine .inr ⟨i,j,e0,by rw [df],h1,vb,hj,abi,fun s=>?_⟩
   have shift:∀ (es:List MapEntry) (a b:Nat) j v,Instr.findNow d u es a=some (some (a+j,v))->Instr.findNow d u es b=some (some (b+j,v)):=fun es=>by
    induction es with
    | nil=>intro a b j v h; simp [Instr.findNow] at h
    | cons e es ih =>
      intro a b j v h
      simp only [Instr.findNow] at h ⊢
      cases yV:Instr.sameNow d u e.key with
      | none=>rw [yV] at h; cases h
      | some t =>
        rw [yV] at h
        cases t
        . dsimp only at h ⊢
          have hle:∀ (es:List MapEntry) (a:Nat) r v,Instr.findNow d u es a=some (some (r,v))->a <= r:=fun es=>by
           induction es with
           | nil=>intro a r v h; simp [Instr.findNow] at h
           | cons e es ih =>
             intro a r v h
             simp only [Instr.findNow] at h
             cases yV:Instr.sameNow d u e.key with
             | none=>rw [yV] at h; cases h
             | some t =>
               rw [yV] at h
               cases t
               . have:=ih _ _ _ h; omega
               . simp at h; omega
          have h1:=hle _ _ _ _ h
          have:=ih (a+1) (b+1) (j - 1) v (by rw [h]; congr 3; omega)
          rw [this]; congr 3; omega
        . simp at h ⊢; obtain ⟨h1,h2⟩:=h; exact ⟨by omega,h2⟩
   exact shift es 0 s j _ hjf
theorem Va {α:Type} {l m:List α} (h:l.Perm m) {i j:Nat} {e:α} (hi:l[i]?=some e) (hj:m[j]?=some e) (e':α):(l.set i e').Perm (m.set j e'):=by
 obtain ⟨h1,h2⟩:=dC.1 hi
 obtain ⟨h3,h4⟩:=dC.1 hj
 have el:l=l.take i++e::l.drop (i+1):=by
  conv=>lhs; rw [<- List.take_append_drop i l,ib h1,h2]
 have em:m=m.take j++e::m.drop (j+1):=by
  conv=>lhs; rw [<- List.take_append_drop j m,ib h3,h4]
 rw [List.set_eq_take_append_cons_drop,if_pos h1,List.set_eq_take_append_cons_drop,if_pos h3]
 have hp:(l.take i++e::l.drop (i+1)).Perm (m.take j++e::m.drop (j+1)):=by rw [<- el,<- em]; exact h
 have h5:=(List.perm_middle.symm.trans hp).trans List.perm_middle
 have h6:=List.Perm.cons_inv h5
 exact (List.perm_middle.trans (h6.cons e')).trans List.perm_middle.symm
theorem run_checkKey {P:Program} {k:TypeId} {d:TypeDesc} {em:Bool} (hd:P.underlying k=some d) (hk:(∃ q,d=.int q)\/d=.string) (n:Nat) (v:Value):(Instr.checkKey em (n+1) k v).run P w=.ok () w:=by
 rcases hk with ⟨q,rfl⟩ | rfl <;> simp [Instr.checkKey,run_underlying hd]
theorem aD.set:∀ {l:List AV} {vs:List Value} {x:AV} {u:Value} (i:Nat),aD g l vs->ay g x u->aD g (l.set i x) (vs.set i u)
 | [],_,_,_,_,h,_=>by simp only [aD] at h; subst h; simp [aD]
 | y::ys,_,x,u,0,h,hx=>by
   simp only [aD] at h
   obtain ⟨v,vs,rfl,h1,h2⟩:=h
   simp only [List.set_cons_zero,aD]
   exact ⟨u,vs,rfl,hx,h2⟩
 | y::ys,_,x,u,i+1,h,hx=>by
   simp only [aD] at h
   obtain ⟨v,vs,rfl,h1,h2⟩:=h
   simp only [List.set_cons_succ,aD]
   exact ⟨v,_,rfl,h1,aD.set i h2 hx⟩
theorem IM {k v:AV} {e:MapEntry} (hk:ay g k e.key) (hv:ay g v e.val):∀ (ks vs:List AV) (l:List MapEntry),aD g ks (l.map (·.key))->aD g vs (l.map (·.val)) ->
 ∃ l':List MapEntry,l'.Perm (e::l)/\aD g (gV k v ks vs).1 (l'.map (·.key))/\aD g (gV k v ks vs).2 (l'.map (·.val))
 | [],vs,l,h1,h2=>by
   simp only [aD,List.map_eq_nil_iff] at h1
   subst h1
   exact ⟨[e],List.Perm.refl _,by simp only [gV,eh,nF,aD]; exact ⟨_,_,rfl,hk,rfl⟩,by simp only [gV,eh,nF,aD]; exact ⟨_,_,rfl,hv,rfl⟩⟩
 | y::ks,vs,[],h1,h2=>by simp [aD] at h1
 | y::ks,[],f::l,h1,h2=>by simp [aD] at h2
 | y::ks,x::vs,f::l,h1,h2=>by
   simp only [gV]
   by_cases aQ:ke k y=true
   . rw [if_pos aQ]
     exact ⟨e::f::l,List.Perm.refl _,by rw [eh]; simp only [aD] at h1 ⊢; exact ⟨_,_,rfl,hk,h1⟩,by rw [eh]; simp only [aD] at h2 ⊢; exact ⟨_,_,rfl,hv,h2⟩⟩
   . rw [if_neg aQ]
     simp only [aD,eh,List.cons.injEq] at h1 h2
     obtain ⟨_,_,⟨rfl,rfl⟩,hy,h1⟩:=h1
     obtain ⟨_,_,⟨rfl,rfl⟩,hx,h2⟩:=h2
     obtain ⟨l',h3,h4,h5⟩:=IM hk hv ks vs l h1 h2
     exact ⟨f::l',((h3.cons f).trans (List.Perm.swap e f l)),by simp only [eh,aD]; exact ⟨_,_,rfl,hy,h4⟩,by simp only [eh,aD]; exact ⟨_,_,rfl,hx,h5⟩⟩
theorem xQ {k v:AV}:∀ (ks vs:List AV) (z:AV),z ∈ (gV k v ks vs).1->z=k\/z ∈ ks
 | [],vs,z,h=>by simp [gV] at h; exact .inl h
 | y::ks,vs,z,h=>by
   simp only [gV] at h
   split at h
   . simpa using h
   . split at h
     . simp at h; exact .inl h
     . rename_i x xs
       simp only [cJ] at h ⊢
       rcases h with h | h
       . exact .inr (.inl h)
       . rcases xQ ks xs z h with h | h
         . exact .inl h
         . exact .inr (.inr h)
theorem Bx {k v:AV}:∀ (ks vs:List AV),pY ks->(∀ y ∈ ks,ke k y=true\/ke y k=true)->pY (gV k v ks vs).1
 | [],vs,h1,h2=>by simp [gV,pY]
 | y::ks,vs,h1,h2=>by
   unfold pY at h1 ⊢
   rw [List.pairwise_cons] at h1
   simp only [gV]
   split
   . rename_i aQ
     rw [List.pairwise_cons,List.pairwise_cons]
     refine ⟨fun z hz=>?_,h1⟩
     rcases cJ.1 hz with rfl | hz
     . exact aQ
     . exact Kx aQ (h1.1 z hz)
   . rename_i aQ
     split
     . simp
     . rename_i x xs
       rw [List.pairwise_cons]
       refine ⟨fun z hz=>?_,Bx ks xs h1.2 fun z hz=>h2 z (by simp [hz])⟩
       rcases xQ ks xs z hz with rfl | hz
       . rcases h2 y (by simp) with h | h
         . exact absurd h aQ
         . exact h
       . exact h1.1 z hz
theorem lE.push {es:Array MapEntry} {clock:Nat} (h:lE es clock) (k v:Value):lE (es.push ⟨k,v,clock⟩) (clock+1):=by
 obtain ⟨h1,h2⟩:=h
 refine ⟨?_,fun e he=>?_⟩
 . simp only [Array.toList_push,List.map_append,eh,nF]
   rw [List.nodup_append]
   refine ⟨h1,by simp,fun a ha b hb=>?_⟩
   simp at hb
   subst hb
   obtain ⟨e,he,rfl⟩:=List.mem_map.1 ha
   exact Nat.ne_of_lt (h2 e he)
 . simp only [Array.toList_push,gu,jX] at he
   rcases he with he | rfl
   . have:=h2 e he; omega
   . simp
theorem A0 {es:Array MapEntry} {j:Nat} {e:MapEntry} (hj:es.toList[j]?=some e) (f:MapEntry->MapEntry):(es.modify j f).toList=es.toList.set j (f e):=by
 apply List.ext_getElem?
 intro i
 simp only [Array.toList_modify,List.getElem?_modify,List.getElem?_set]
 by_cases fR:j=i
 . subst fR
   have aQ:=(dC.1 hj).1
   simp only [if_true,hj,if_pos aQ]; rfl
 . simp only [if_neg fR]
   cases es.toList[i]? <;> rfl
theorem lE.modify {es wz:Array MapEntry} {clock:Nat} (h:lE es clock) {j:Nat} {e e':MapEntry} (hj:es.toList[j]?=some e) (hb:e'.born=e.born) (he:wz.toList=es.toList.set j e'):lE wz clock:=by
 have hm:wz.toList.map (·.born)=es.toList.map (·.born):=by
  rw [he,List.map_set,hb]
  apply List.ext_getElem?
  intro i
  rw [List.getElem?_set]
  split
  . rename_i fR
    subst fR
    rw [nE,hj]
    have aQ:=(dC.1 hj).1
    simp at aQ ⊢; exact aQ
  . rfl
 refine ⟨by rw [hm]; exact h.1,fun x hx=>?_⟩
 have:x.born ∈ wz.toList.map (·.born):=List.mem_map_of_mem hx
 rw [hm] at this
 obtain ⟨y,hy,hy2⟩:=List.mem_map.1 this
 rw [<- hy2]; exact h.2 y hy
theorem vq (h:bo g U w) {t:TypeId} {m k x:AV} {vm vk vx:Value} (hm:ay g m vm) (hk:ay g k vk) (hx:ay g x vx) :
 aC.Fits C g U (rA C.P t m k x U) ((do Instr.mapUpdate t vm vk vx; pure Next.skip:Sem Next).run C.P w):=by
 unfold rA
 split
 . rename_i fk e id ht
   split
   . rename_i ks vs Is
     obtain ⟨kt,hu,hkt⟩:=zI ht
     obtain ⟨d,hd,Ij⟩:∃ d,C.P.underlying kt=some d/\((fk=.i/\∃ q,d=.int q)\/(fk=.s/\d=.string)):=by
      rcases hkt with ⟨rfl,q,hq⟩ | ⟨rfl,hq⟩
      . exact ⟨_,hq,.inl ⟨rfl,q,rfl⟩⟩
      . exact ⟨_,hq,.inr ⟨rfl,rfl⟩⟩
     have UA:(∃ q,d=.int q)\/d=.string:=Ij.imp (·.2) (·.2)
     simp only [ay] at hm
     obtain ⟨r,hr,rfl⟩:=hm
     obtain ⟨r',es,clock,q1,q2,q3,qb,⟨l,q4,q5,q6,q7⟩,q8⟩:=h.mp id _ Is
     rw [hr] at q1; cases q1
     have ti:(getObj r).run C.P w=.ok (.map es clock) w:=by simp [getObj,Sem.run,q3]
     have Px:=run_checkKey (P:=C.P) (w:=w) (em:=false) hd UA 9999 vk
     have En:∀ o,(setObj r o).run C.P w=.ok () { w with heap:=w.heap.setIfInBounds r o }:=fun o=>by simp [setObj,Sem.run,q3]
     split
     . rename_i hf Lp
       rcases B1 (P:=C.P) hd Ij hk q4 q5 q6 hf with ⟨_,ha,hn⟩ | ⟨i,_,_,he,_⟩
       . simp only [Instr.mapUpdate,ck,run_underlying hu,cK,ti,Px,Instr.findKey,run_underlying hd,hn,cP,En]
         obtain ⟨l',p1,p2,p3⟩:=IM (e:=⟨vk,vx,clock⟩) hk hx ks vs l q6 q7
         refine ⟨undef,_,g,.inr ⟨rfl,rfl⟩,Gh.Le.refl g,h.QW Is (kv':=gV k x ks vs) hr q3 ⟨l',?_,?_,p2,p3⟩ (qb.push vk vx),by simp only [ay]; exact ⟨[],rfl,by simp [aD]⟩⟩
         . rw [Array.toList_push]
           exact (p1.trans (q4.cons _)).trans (List.perm_append_singleton _ _).symm
         . exact Bx ks vs q5 fun y hy=>UP (ha y hy)
       . cases he
     . rename_i i hf Lp
       rcases B1 (P:=C.P) hd Ij hk q4 q5 q6 hf with ⟨he,_⟩ | ⟨i',j,e,he,abq,Ip,Py,Wr,hn⟩
       . cases he
       . cases he
         have C4:=hn 0
         rw [df] at C4
         have aQ:j < es.size:=by
          have:=(dC.1 Py).1
          simpa using this
         have afh:es[j]?=some e:=by rw [<- lO]; exact Py
         have ad1:Instr.sameBits 10000 e.key vk=true:=by
          rcases Ij with ⟨rfl,_⟩ | ⟨rfl,_⟩ <;> cases k <;> simp only [ql,bQ] at Lp
          . simp only [ay] at hk Wr; rw [hk,Wr]; simp [Instr.sameBits]
          . simp only [ay] at hk Wr; rw [hk,Wr]; simp [Instr.sameBits,beq_toListBytes]
         have Lw:(Instr.keyThatStays e.key vk).run C.P w=.ok vk w:=by simp [Instr.keyThatStays,ad1]
         have afq:((es[j]?).map (·.key)).getD vk=e.key:=by rw [afh]; rfl
         simp only [Instr.mapUpdate,ck,run_underlying hu,cK,ti,Px,Instr.findKey,run_underlying hd,C4,cP,En,afq,Lw]
         have abt:=A0 Py (fun e=>{ e with key:=vk,val:=vx })
         refine ⟨undef,_,g,.inr ⟨rfl,rfl⟩,Gh.Le.refl g,h.QW Is (kv':=(ks,vs.set i x)) hr q3 ⟨l.set i { e with key:=vk,val:=vx },?_,q5,?_,?_⟩ (qb.modify (e':={ e with key:=vk,val:=vx }) Py rfl abt),by simp only [ay]; exact ⟨[],rfl,by simp [aD]⟩⟩
         . rw [abt]; exact Va q4 Ip Py _
         . rw [List.map_set]
           have:=q6.set i hk
           have e1:ks.set i k=ks:=by
            apply List.ext_getElem?
            intro a
            rw [List.getElem?_set]
            split
            . rename_i ha; subst ha
              split
              . exact abq.symm
              . rename_i hn; exact absurd (dC.1 abq).1 hn
            . rfl
           rw [e1] at this; exact this
         . rw [List.map_set]; exact q7.set i hx
     . trivial
   . trivial
 . trivial
theorem Dh {fk:FK} {k z:AV} {ok:Bool}:∀ (ks vs:List AV) (s:Nat),ks.length=vs.length->oe fk k z ok ks vs=(match ml fk k ks s with
 | none=>.bad
 | some none=>.val (if ok then .aH [z,.bool false] else z)
 | some (some i)=>.val (if ok then .aH [vs.getD (i - s) z,.bool true] else vs.getD (i - s) z))
 | [],[],s,_=>by simp [oe,ml]
 | [],_::_,s,h=>by simp at h
 | _::_,[],s,h=>by simp at h
 | y::ks,v::vs,s,h=>by
   simp only [oe,ml]
   cases hb:iy fk k y with
   | none=>rfl
   | some b =>
     cases b
     . simp only [bQ,if_false]
       rw [Dh ks vs (s+1) (by simpa using h)]
       cases hf:ml fk k ks (s+1) with
       | none=>rfl
       | some r =>
         cases r with
         | none=>rfl
         | some i =>
           rcases xI hf with ⟨h1,_⟩ | ⟨i',h1,_⟩
           . cases h1
           . cases h1
             have e1:s+1+i' - (s+1)=i':=by omega
             have e2:s+1+i' - s=i'+1:=by omega
             simp only [e1,e2,List.getD_cons_succ]
     . simp only [if_true,Nat.sub_self,List.getD_cons_zero]
theorem I8 (h:bo g U w) {t:TypeId} {m k:AV} {vm vk:Value} {ok:Bool} (hm:ay g m vm) (hk:ay g k vk) :
 aC.Fits C g U (wY C.P t m k ok U) ((do let r <- Instr.lookup t vm vk ok; pure (Next.value r):Sem Next).run C.P w):=by
 unfold wY
 split
 . rename_i fk e ks vs ht he
   split
   . rename_i z hz Lp
     obtain ⟨kt,hu,hkt⟩:=zI ht
     obtain ⟨d,hd,Ij⟩:∃ d,C.P.underlying kt=some d/\((fk=.i/\∃ q,d=.int q)\/(fk=.s/\d=.string)):=by
      rcases hkt with ⟨rfl,q,hq⟩ | ⟨rfl,hq⟩
      . exact ⟨_,hq,.inl ⟨rfl,q,rfl⟩⟩
      . exact ⟨_,hq,.inr ⟨rfl,rfl⟩⟩
     have UA:(∃ q,d=.int q)\/d=.string:=Ij.imp (·.2) (·.2)
     obtain ⟨i,vz,hi,uz,PX⟩:∃ i vz,C.P.info? e=some i/\i.zero=some vz/\Fg vz=z:=by
      unfold zeroV at hz
      cases hi:C.P.info? e with
      | none=>simp [hi] at hz
      | some i =>
        cases pj:i.zero with
        | none=>simp [hi,pj] at hz
        | some vz=>simp [hi,pj] at hz; exact ⟨i,vz,rfl,pj,hz⟩
     have WU:ay g z vz:=by rw [<- PX]; exact Ee vz
     obtain ⟨es,zu,l,hp,afD,h1,h2⟩:∃ es:Array MapEntry,((vm=.map none/\es=#[])\/∃ r clock,vm=.map (some r)/\w.heap[r]?=some (Obj.map es clock))/\xw g ks vs es:=by
      cases m <;> simp only [kH,reduceCtorEq,ji,gL] at he
      . obtain ⟨rfl,rfl⟩:=he
        simp only [ay] at hm; subst hm
        exact ⟨#[],.inl ⟨rfl,rfl⟩,[],List.Perm.refl _,by simp [pY],by simp [aD],by simp [aD]⟩
      . simp only [ay] at hm
        obtain ⟨r,hr,rfl⟩:=hm
        obtain ⟨r',es,clock,q1,q2,q3,_,q4,_⟩:=h.mp _ _ he
        rw [hr] at q1; cases q1
        exact ⟨es,.inr ⟨r,clock,rfl,q3⟩,q4⟩
      . obtain ⟨rfl,rfl⟩:=he
        simp only [ay] at hm
        obtain ⟨r,es,clock,l,rfl,hr,q0,q1,q2,q3⟩:=hm
        exact ⟨es,.inr ⟨r,clock,rfl,(h.bY r es clock hr).1⟩,l,q0,q1,q2,q3⟩
     have hlen:ks.length=vs.length:=by
      have a:=h1.length
      have b:=h2.length
      simp at a b; omega
     rw [Dh ks vs 0 hlen]
     cases hf:ml fk k ks 0 with
     | none=>trivial
     | some r =>
       have Px:=run_checkKey (P:=C.P) (w:=w) (em:=es.isEmpty) hd UA 9999 vk
       have key:=B1 (P:=C.P) hd Ij hk hp afD h1 hf
       have fin:∀ q:Option (Nat × Value),Instr.findNow d vk es.toList 0=some q->(Instr.lookup t vm vk ok).run C.P w=(match q with
        | some (_,v)=>.ok (if ok then .tuple #[v,.bool true] else v) w
        | none=>.ok (if ok then .tuple #[vz,.bool false] else vz) w):=fun q hq=>by
        rcases zu with ⟨rfl,rfl⟩ | ⟨r,clock,rfl,hh⟩
        . simp only [Instr.lookup,ck,run_underlying hu,cK,cP,Px,Instr.findKey,run_underlying hd,hq]
          cases q with
          | none=>simp only [cP,cK,ck,gX hi uz]
          | some p=>rfl
        . have ti:(getObj r).run C.P w=.ok (Obj.map es clock) w:=by simp [getObj,Sem.run,hh]
          simp only [Instr.lookup,ck,run_underlying hu,cK,cP,ti,Px,Instr.findKey,run_underlying hd,hq]
          cases q with
          | none=>simp only [cP,cK,ck,gX hi uz]
          | some p=>rfl
       rcases key with ⟨rfl,_,hn⟩ | ⟨i,j,e,rfl,_,Ip,_,_,hn⟩
       . simp only [ck,fin _ (hn 0),cK,cP]
         refine a8 h ?_
         cases ok
         . exact WU
         . simp only [if_true,ay]
           exact ⟨[vz,.bool false],rfl,by simp only [aD]; exact ⟨_,_,rfl,WU,_,_,rfl,by simp only [ay],rfl⟩⟩
       . simp only [ck,fin _ (hn 0),cK,cP,Nat.sub_zero]
         have hv:ay g (vs.getD i z) e.val:=by
          have aQ:i < vs.length:=by
           have a:=(dC.1 Ip).1
           have b:=h2.length
           simp at b; omega
          obtain ⟨v,hv,PO⟩:=h2.get (i:=i) (x:=vs[i]) (pU aQ)
          rw [nE,Ip] at hv
          simp at hv
          subst hv
          have:vs.getD i z=vs[i]:=by simp [nG,aQ]
          rw [this]; exact PO
         refine a8 h ?_
         cases ok
         . exact hv
         . simp only [if_true,ay]
           exact ⟨[e.val,.bool true],rfl,by simp only [aD]; exact ⟨_,_,rfl,hv,_,_,rfl,by simp only [ay],rfl⟩⟩
   . trivial
 . trivial
theorem NQ (h:bo g U w):aC.Fits C g U .vu (.ok (.value (.map (some w.heap.size))) (w.alloc (.map #[] 0))):=by
 obtain ⟨b,g',h1,h2,h3,h4⟩:=h.uE (.map #[] 0) 0 0 (.mp [] []) fun g' hle hi hm=>⟨#[],0,heap_alloc_new w _,⟨by simp,by simp⟩,⟨[],List.Perm.refl _,by simp [pY],by simp [aD],by simp [aD]⟩,hm⟩
 exact ⟨_,_,g',b,rfl,h1,h2,h4,by simp only [NV.at,ay]; exact ⟨_,Gh.qe.2 ⟨_,h3,rfl⟩,rfl⟩⟩
end
end Go.Rip
namespace Go.Rip
open Go.RowKit
def bM (c a b:AV):aC :=
 match c with
 | .bool t=>.val (if t=true then a else b)
 | _=>.bad
def AA (P:Program) (s f:Nat):Option (Nat × Bool × Nat) :=
 match P.underlying s with
 | some (.struct fields)=>match fields[f]? with
   | some x=>match oY P x.type with
     | some (b,n)=>some (x.offset,b,n)
     | none=>none
   | none=>none
 | _=>none
def zl (P:Program) (s:TypeId) (x:AV) (f:Nat):aC :=
 match AA P s f,x with
 | some (o,true,n),.agg l=>.cond (o+n <= l.length) (.val (.agg ((l.drop o).take n)))
 | some (o,false,_),.agg l=>jf (l.drop o)
 | _,_=>.bad
def jk (P:Program) (f:AV) (args:List AV):aC :=
 match f with
 | .func (.func g) first cap=>if fw P g=true then .enter g (first++args++cap) else .bad
 | .rZ o=>.yield o args
 | _=>.bad
def Ju (P:Program) (t:TypeId) (m:AV):aC :=
 match rz P t,m with
 | some _,.ga ks vs=>.new .it none (.iter (ks.zip vs) none)
 | _,_=>.bad
def tQ:List (AV × AV)->List ((AV × AV) × List (AV × AV))
 | []=>[]
 | x::xs=>(x,xs)::(tQ xs).map fun p=>(p.1,x::p.2)
def sL (i:AV) (U:St):aC :=
 match i with
 | .it o=>match U.iter o with
   | some ([],_)=>.val (.aH [.bool false])
   | some (x::xs,_)=>.mj o ((tQ (x::xs)).map fun p=>(.aH [.bool true,p.1.1,p.1.2],.iter p.2 (some p.1)))
   | none=>.bad
 | _=>.bad
def nu (i:AV) (U:St):aC :=
 match i with
 | .it o=>match U.iter o with
   | some (_,some kv)=>.val (.aH [kv.1,kv.2])
   | _=>.bad
 | _=>.bad
def Ar (P:Program) (t:TypeId):Option AV :=
 match P.underlying t with
 | some (.interface _)=>none
 | some _=>zeroV P t
 | none=>none
def wi (P:Program) (x:AV) (t:TypeId) (ok:Bool):aC :=
 match Ar P t,x with
 | some z,.iface u v=>if u=t then .val (if ok then .aH [v,.bool true] else v) else if ok then .val (.aH [z,.bool false]) else .bad
 | some z,.dq=>if ok then .val (.aH [z,.bool false]) else .bad
 | _,_=>.bad
def tP (P:Program) (t:TypeId) (mu:Bool) (l c:AV):aC :=
 match fJ P t,l,c with
 | some (e,sz),.int _ l,.int _ c=>match qt P e with
   | some z=>.cond (0 <= l/\l=c/\c <= 65536) (if mu then .pF l.toNat sz e none (bO l.toNat z) else .oE l.toNat (bO l.toNat z) none ⟨l.toNat,e,sz⟩)
   | none=>.bad
 | _,_,_=>.bad
def ze (P:Program) (t:TypeId) (x:AV) (U:St):aC :=
 match fJ P t,x with
 | some (e,sz),.ms b off n jA _=>match U.box b,qt P e with
   | some l,some z=>.cond (jA=sz/\off+n * sz <= l.length) (.jd (.aH []) b (.box (aA l off (bO n z))))
   | _,_=>.bad
 | _,_=>.bad
def CT (P:Program) (t u:TypeId):Option (TypeId × Nat × List AV) :=
 match P.underlying u with
 | some (.int _)=>match fJ P t with
   | some (e,sz)=>match qt P e with
     | some z=>some (e,sz,z)
     | none=>none
   | none=>none
 | _=>none
def GW (q:TypeId × Nat × List AV) (mu:Bool) (s y:AV):aC :=
 match s,y with
 | .aq,.int _ n=>.cond (0 < n/\n <= 65536) (if mu then .pF n.toNat q.2.1 q.1 none (bO n.toNat q.2.2) else .oE n.toNat (bO n.toNat q.2.2) none ⟨n.toNat,q.1,q.2.1⟩)
 | _,_=>.bad
def HC (st:Option (TypeId × Nat)) (x:AV):aC:=match st,x with
 | some _,.aq=>.val (.int .i64 0)
 | _,_=>.bad
def Aq (P:Program) (t u:TypeId) (mu:Bool) (s y:AV) (U:St):aC :=
 match CT P t u with
 | some q=>GW q mu s y
 | none=>D8 P t u mu s y U
def Ax (C:cS) (mu:Bool) (c:Call) (ρ:Env) (U:St):aC :=
 match c.callee,c.argTypes.toList,c.args.toList with
 | .value f,_,args=>jk C.P (ρ.ev C f) (args.map (ρ.ev C))
 | .builtin .len,[t],[x]=>IY C.P t (ρ.ev C x) U
 | .builtin .append,[t,u],[s,y]=>Aq C.P t u mu (ρ.ev C s) (ρ.ev C y) U
 | .builtin .cap,[t],[x]=>HC (fJ C.P t) (ρ.ev C x)
 | .builtin .min,_,[x,y]=>zJ (ρ.ev C x) (ρ.ev C y)
 | .builtin .max,_,[x,y]=>Cc (ρ.ev C x) (ρ.ev C y)
 | .builtin .clear,[t],[x]=>ze C.P t (ρ.ev C x) U
 | _,_,_=>.bad
def kn (C:cS) (mu:Bool) (o:Op) (ρ:Env) (U:St):aC :=
 match o with
 | .move x | .assign x=>.val (ρ.ev C x)
 | .pick c a b=>bM (ρ.ev C c) (ρ.ev C a) (ρ.ev C b)
 | .alloc t=>Hp C.P t
 | .box _ x=>fZ (ρ.ev C x)
 | .build t parts=>Hy C.P t (nv C ρ parts)
 | .buildSlice t n parts=>sG C.P t n mu (nv C ρ parts)
 | .insert t m k v | .mapUpdate t m k v=>rA C.P t (ρ.ev C m) (ρ.ev C k) (ρ.ev C v) U
 | .load t a=>vj C.P t (ρ.ev C a) U
 | .store t a v=>JN C.P t (ρ.ev C a) (ρ.ev C v) U
 | .nilCheck x=>aV (ρ.ev C x)
 | .binOp op t x y _=>Hu C.P op t (isLit x || isLit y) (ρ.ev C x) (ρ.ev C y)
 | .unOp op _ x=>ly op (ρ.ev C x)
 | .convert s d x=>GU C.P s d (ρ.ev C x)
 | .makeInterface t x=>x8 C.P t (ρ.ev C x)
 | .makeFunc fn first cap=>.val (.func fn (first.toList.map (ρ.ev C)) (cap.toList.map (ρ.ev C)))
 | .makeMap _ none=>.vu
 | .slice t x lo hi none=>JG C.P t (ρ.ev C x) (lo.map (ρ.ev C)) (hi.map (ρ.ev C))
 | .fieldAddr s x f=>xH C.P s (ρ.ev C x) f
 | .field s x f=>zl C.P s (ρ.ev C x) f
 | .indexAddr t x i=>xP C.P t (ρ.ev C x) (ρ.ev C i)
 | .index t x i=>C9 C.P t (ρ.ev C x) (ρ.ev C i)
 | .lookup t m k ok=>wY C.P t (ρ.ev C m) (ρ.ev C k) ok U
 | .extract t i=>aX (ρ.ev C t) i
 | .panic x=>uG (ρ.ev C x)
 | .range t m=>Ju C.P t (ρ.ev C m)
 | .typeAssert x _ t ok=>wi C.P (ρ.ev C x) t ok
 | .makeSlice t l c=>tP C.P t mu (ρ.ev C l) (ρ.ev C c)
 | .next i false=>sL (ρ.ev C i) U
 | .entry i=>nu (ρ.ev C i) U
 | .call c=>Ax C mu c ρ U
 | _=>.bad
section
variable {C:cS} {g:Gh} {U:St} {w:World}
theorem Eh (h:bo g U w) {s f:Nat} {x:AV} {v:Value} (hx:ay g x v):aC.Fits C g U (zl C.P s x f) ((do let r <- Instr.field s v f; pure (Next.value r):Sem Next).run C.P w):=by
 unfold zl
 have key:∀ {o b n},AA C.P s f=some (o,b,n)->∃ fs y i d,C.P.underlying s=some (.struct fs)/\fs[f]?=some y/\y.offset=o/\C.P.info? y.type=some i/\C.P.underlying y.type=some d/\D7 d=b/\i.size=n:=fun {o b n} hf=>by
  unfold AA at hf
  split at hf
  . rename_i fs hu
    split at hf
    . rename_i y hy
      split at hf
      . rename_i b' n' hv
        simp only [ji,gL] at hf
        obtain ⟨rfl,rfl,rfl⟩:=hf
        obtain ⟨i,d,h1,h2,h3,h4⟩:=pz hv
        exact ⟨fs,y,i,d,hu,hy,rfl,h1,h2,h3,h4⟩
      . cases hf
    . cases hf
  . cases hf
 split
 . rename_i o n l hf
   obtain ⟨fs,y,i,d,hu,hy,rfl,hi,hd,ha,rfl⟩:=key hf
   intro hle
   simp only [ay] at hx
   obtain ⟨vs,rfl,h1,hr⟩:=hx
   simp only [Instr.field,ck,run_underlying hu,cK,hy,asAgg,cP,part,mz hd,ha,if_true,fE,fg hi]
   refine a8 h ?_
   simp only [ay]
   refine ⟨(vs.drop y.offset).take i.size,?_,fun u hu=>h1 u (List.mem_of_mem_drop (List.mem_of_mem_take hu)),(hr.drop _).take _⟩
   congr 1
   apply Array.ext'
   simp [List.extract_eq_take_drop]
 . rename_i o n l hf
   obtain ⟨fs,y,i,d,hu,hy,rfl,hi,hd,ha,rfl⟩:=key hf
   simp only [ay] at hx
   obtain ⟨vs,rfl,h1,hr⟩:=hx
   cases hl:l.drop y.offset with
   | nil=>trivial
   | cons z zs =>
     have hz:l[y.offset]?=some z:=by
      have:=congrArg (fun l=>l[0]?) hl
      simpa using this
     obtain ⟨u,pO,hzu⟩:=hr.get hz
     have e:vs.toArray[y.offset]?=some u:=by simpa using pO
     simp only [Instr.field,ck,run_underlying hu,cK,hy,asAgg,cP,part,mz hd,ha,bQ,if_false,fE,e]
     exact a8 h hzu
 . trivial
theorem Az (hG:iU C g) {ρ:Env} {a:Act} (hr:ia g ρ a.tmps):∀ l:List Operand,aD g (l.map (ρ.ev C)) (l.map a.eval)
 | []=>by simp [aD]
 | x::l=>by simp only [eh,aD]; exact ⟨_,_,rfl,ui hG hr x,Az hG hr l⟩
theorem Uj (h:bo g U w) {f:AV} {vf:Value} {args:List AV} {vs:List Value} (hf:ay g f vf) (ha:aD g args vs) :
 aC.Fits C g U (jk C.P f args) ((do let d <- Deferred.ofValue vf vs.toArray; invoke d.target d.args:Sem Next).run C.P w):=by
 unfold jk
 split
 . rename_i q first cap
   split
   . rename_i he
     simp only [ay] at hf
     obtain ⟨fs,cs,rfl,h1,h2⟩:=hf
     unfold fw at he
     split at he
     . rename_i fn hfn
       simp only [bS,Bool.not_eq_true'] at he
       have hb:fn.body.isNone=false:=by cases hb:fn.body <;> simp_all
       simp only [Deferred.ofValue,invoke,callFunc,ck,cP,cK,run_program,hfn,he.2,hb,bQ,if_false,fE]
       exact ⟨fs++vs++cs,w,by simp,h,(h1.append ha).append h2⟩
     . cases he
   . trivial
 . rename_i o
   simp only [ay] at hf
   obtain ⟨x,hx,rfl⟩:=hf
   simp only [Deferred.ofValue,invoke,ck,cP,cK]
   exact ⟨vs,x,w,w,hx,by simp,rfl,h,ha⟩
 . trivial
theorem Cy (h:bo g U w) {x:AV} {v:Value} {xt t:TypeId} {ok:Bool} (hx:ay g x v) :
 aC.Fits C g U (wi C.P x t ok) ((do let r <- Instr.typeAssert v xt t ok; pure (Next.value r):Sem Next).run C.P w):=by
 have key:∀ {z:AV},Ar C.P t=some z->∃ d i vz,C.P.underlying t=some d/\(∀ ms,d ≠ .interface ms)/\C.P.info? t=some i/\i.zero=some vz/\ay g z vz:=fun {z} hz=>by
  unfold Ar at hz
  split at hz
  . cases hz
  . rename_i d hn hd
    unfold zeroV at hz
    cases hi:C.P.info? t with
    | none=>simp [hi] at hz
    | some i =>
      cases pj:i.zero with
      | none=>simp [hi,pj] at hz
      | some vz=>simp [hi,pj] at hz; exact ⟨d,i,vz,hd,fun ms e=>hn ms e,rfl,pj,by rw [<- hz]; exact Ee vz⟩
  . cases hz
 unfold wi
 split
 . rename_i z u y hz
   obtain ⟨d,i,vz,hd,hn,hi,pj,PX⟩:=key hz
   simp only [ay] at hx
   obtain ⟨q,rfl,hq⟩:=hx
   have ix:(Instr.typeAssert (.iface u q) xt t ok).run C.P w=(if u=t then .ok (if ok then .tuple #[q,.bool true] else q) w else if ok then .ok (.tuple #[vz,.bool false]) w else (Instr.typeAssert (.iface u q) xt t ok).run C.P w):=by
    by_cases hu:u=t
    . rw [if_pos hu]
      cases d <;> first
       | exact absurd rfl (hn _)
       | (cases ok <;> simp [Instr.typeAssert,run_underlying hd,hu])
    . rw [if_neg hu]
      cases ok
      . rfl
      . cases d <;> first
         | exact absurd rfl (hn _)
         | simp [Instr.typeAssert,run_underlying hd,hu,gX hi pj]
   split
   . rename_i hu
     rw [ck,ix,if_pos hu]
     refine a8 h ?_
     cases ok
     . exact hq
     . simp only [if_true,ay,aD]; exact ⟨_,rfl,_,_,rfl,hq,_,_,rfl,rfl,rfl⟩
   . rename_i hu
     split
     . rename_i cO
       rw [ck,ix,if_neg hu,if_pos cO]
       exact a8 h (by simp only [ay,aD]; exact ⟨_,rfl,_,_,rfl,PX,_,_,rfl,rfl,rfl⟩)
     . trivial
 . rename_i z hz
   obtain ⟨d,i,vz,hd,hn,hi,pj,PX⟩:=key hz
   simp only [ay] at hx
   subst hx
   split
   . rename_i cO
     subst cO
     have ix:(Instr.typeAssert .nilIface xt t true).run C.P w=.ok (.tuple #[vz,.bool false]) w:=by
      cases d <;> first
       | exact absurd rfl (hn _)
       | simp [Instr.typeAssert,run_underlying hd,gX hi pj]
     rw [ck,ix]
     exact a8 h (by simp only [ay,aD]; exact ⟨_,rfl,_,_,rfl,PX,_,_,rfl,rfl,rfl⟩)
   . trivial
 . trivial
theorem Dk (h:bo g U w) {t:TypeId} {mu:Bool} {l c:AV} {vl vc:Value} (hl:ay g l vl) (hc:ay g c vc) :
 aC.Fits C g U (tP C.P t mu l c) ((do let x <- Instr.makeSlice t vl vc; pure (Next.value x):Sem Next).run C.P w):=by
 unfold tP
 split
 . rename_i e sz kl l kc c hs
   split
   . rename_i z hz
     rintro ⟨h0,rfl,h1⟩
     obtain ⟨i,zv,hu,hi,pj,wQ,fh,oT,hb,_⟩:=jl hs
     obtain ⟨i',zv',lJ,FD,hm⟩:=oy hz
     rw [hi] at lJ; cases lJ
     rw [pj] at FD; cases FD
     obtain ⟨h2,h3⟩:=ff (g:=g) hm
     simp only [ay] at hl hc
     subst hl hc
     have abc:(i.bytes:Int) * l <= 281474976710656:=by
      have e1:(i.bytes:Int) * l <= 32768 * l:=Int.mul_le_mul_of_nonneg_right (by omega) h0
      omega
     have ix:=run_make (P:=C.P) w t e i zv hu hi pj kl kc l l h0 (Int.le_refl _) abc (by omega)
     have zz:=tW (g:=g) h2 l.toNat
     have hmc:madeCells zv.cells (l.toNat * i.size)=(Array.range (l.toNat * zv.cells.size)).map (zv.cells[· % zv.cells.size]!):=by rw [fh,<- wQ]; rfl
     have B6:∀ u ∈ (madeCells zv.cells (l.toNat * i.size)).toList,u.oneCell'=true:=fun u hu=>by
      rw [hmc] at hu
      simp only [Array.toList_map,List.mem_map] at hu
      obtain ⟨j,_,rfl⟩:=hu
      have aQ:j % zv.cells.size < zv.cells.size:=Nat.mod_lt _ (by omega)
      rw [getElem!_pos zv.cells _ aQ]
      exact h3 _ (by simp)
     rw [<- hmc] at zz
     have hlen:(madeCells zv.cells (l.toNat * i.size)).toList.length=l.toNat * sz:=by rw [hmc]; simp [wQ]
     have IH:z.length=sz:=by have:=h2.length; simp at this; omega
     simp only [ck,ix,cK,cP]
     cases mu
     . have:=p5 (C:=C) (del:=none) (e:=e) (sz:=sz) (n:=l.toNat) (c:=l.toNat) h (vs:=(madeCells zv.cells (l.toNat * i.size)).toList) (rest:=[]) zz B6 (by simp) (by rw [mf,IH]) (by simpa using hlen) (bT _) (by unfold maxLen; omega)
       simpa using this
     . have:=rk (C:=C) (del:=none) (e:=e) (sz:=sz) (n:=l.toNat) (c:=l.toNat) h (vs:=(madeCells zv.cells (l.toNat * i.size)).toList) (rest:=[]) zz B6 (by simp) (by simpa using hlen) (bT _) (by unfold maxLen; omega)
       simpa using this
   . trivial
 . trivial
theorem Ka (h:bo g U w) {t ty:TypeId} {x:AV} {v:Value} (hx:ay g x v) :
 aC.Fits C g U (ze C.P t x U) ((do let r <- Builtin.clear_ #[t] ty #[v]; pure (Next.value r):Sem Next).run C.P w):=by
 unfold ze
 split
 . rename_i e sz b off n jA e' hs
   split
   . rename_i l z hb hz
     rintro ⟨rfl,h1⟩
     obtain ⟨i,zv,hu,hi,pj,wQ,fh,oT,_⟩:=jl hs
     obtain ⟨i',zv',lJ,FD,hm⟩:=oy hz
     rw [hi] at lJ; cases lJ
     rw [pj] at FD; cases FD
     obtain ⟨h2,h3⟩:=ff (g:=g) hm
     simp only [ay] at hx
     obtain ⟨y,c,hy,rfl,_⟩:=hx
     have IH:z.length=jA:=by have:=h2.length; simp at this; omega
     have zz:=tW (g:=g) h2 n
     have hzc:Builtin.zeroCells zv.cells n=(Array.range (n * zv.cells.size)).map (zv.cells[· % zv.cells.size]!):=rfl
     obtain ⟨w',fV,eU⟩:=xi (C:=C) (off:=off) h hb hy zz (ng h3 n (by omega)) (by rw [mf,IH]; exact h1)
     rw [<- hzc] at fV
     by_cases hn:n=0
     . subst hn
       have e0:U.bZ b (aA l off (bO 0 z))=U.bZ b l:=by simp [aA,bO]
       simp only [Builtin.clear_,ck,cP,cK]
       simp [run_underlying hu]
       refine ⟨_,w,g,.inl rfl,Gh.Le.refl g,?_,by simp only [ay]; exact ⟨[],rfl,by simp [aD]⟩⟩
       show bo g (U.bZ b (aA l off (bO 0 z))) w
       rw [e0]; exact h.aec hb
     . have hz2:=gX (P:=C.P) hi pj w
       have abe:(Builtin.clear_ #[t] ty #[.slice (some ⟨y.aF,off,none⟩) n c]).run C.P w=.ok (.tuple #[]) w':=by
        simp [Builtin.clear_,run_underlying hu,hz2,fV,hn]
       simp only [ck,abe,cK,cP]
       exact ⟨_,w',g,.inl rfl,Gh.Le.refl g,eU,by simp only [ay]; exact ⟨[],rfl,by simp [aD]⟩⟩
   . trivial
 . trivial
theorem BP:∀ {ks vs:List AV},ks.length=vs.length->(ks.zip vs).map (·.1)=ks
 | [],[],_=>rfl
 | [],_::_,h=>by simp at h
 | _::_,[],h=>by simp at h
 | k::ks,v::vs,h=>by simp only [List.zip_cons_cons,eh]; rw [BP (by simpa using h)]
theorem BQ:∀ {ks vs:List AV},ks.length=vs.length->(ks.zip vs).map (·.2)=vs
 | [],[],_=>rfl
 | [],_::_,h=>by simp at h
 | _::_,[],h=>by simp at h
 | k::ks,v::vs,h=>by simp only [List.zip_cons_cons,eh]; rw [BQ (by simpa using h)]
theorem KH (h:bo g U w) {t:TypeId} {m:AV} {v:Value} (hm:ay g m v):aC.Fits C g U (Ju C.P t m) ((do let x <- Instr.range t v; pure (Next.value x):Sem Next).run C.P w):=by
 unfold Ju
 split
 . rename_i p ks vs ht
   obtain ⟨fk,e⟩:=p
   obtain ⟨kt,hu,_⟩:=zI ht
   simp only [ay] at hm
   obtain ⟨r,es,clock,l,rfl,hr,hp,hs,h1,h2⟩:=hm
   obtain ⟨q1,q2⟩:=h.bY r es clock hr
   have hlen:ks.length=vs.length:=by
    have a:=h1.length
    have b:=h2.length
    simp at a b; omega
   have ti:(getObj r).run C.P w=.ok (.map es clock) w:=by simp [getObj,Sem.run,q1]
   obtain ⟨b,g',f1,f2,f3,f4⟩:=h.uE (.mapIter (some r) clock #[] clock) 0 0 (.iter (ks.zip vs) none) fun g' hle hi PH =>
    ⟨r,es,clock,#[],heap_alloc_new w _,hle.bY _ _ hr,⟨l,by
      have:(es.toList.filter fun e=>!(#[]:Array Nat).contains e.born)=es.toList:=by simp
      rw [this]; exact hp,by rw [BP hlen]; exact h1.mono hle,by rw [BQ hlen]; exact h2.mono hle⟩,trivial⟩
   simp only [Instr.range,ck,run_underlying hu,cK,ti,cP,run_newObj]
   exact ⟨_,_,g',b,rfl,f1,f2,f4,by simp only [NV.at,ay]; exact ⟨_,f3,rfl⟩⟩
 . trivial
theorem Gg:∀ {l:List (AV × AV)} {i:Nat} {x:AV × AV},l[i]?=some x->(x,l.eraseIdx i) ∈ tQ l
 | [],i,x,h=>by simp at h
 | y::l,0,x,h=>by simp at h; subst h; simp [tQ]
 | y::l,i+1,x,h=>by
   simp only [List.getElem?_cons_succ] at h
   simp only [tQ,List.eraseIdx_cons_succ,cJ,List.mem_map]
   exact .inr ⟨_,Gg h,rfl⟩
theorem aD.eraseIdx:∀ {l:List AV} {vs:List Value} (i:Nat),aD g l vs->aD g (l.eraseIdx i) (vs.eraseIdx i)
 | [],_,_,h=>by simp only [aD] at h; subst h; simp [aD]
 | y::ys,_,0,h=>by
   simp only [aD] at h
   obtain ⟨v,vs,rfl,h1,h2⟩:=h
   simpa using h2
 | y::ys,_,i+1,h=>by
   simp only [aD] at h
   obtain ⟨v,vs,rfl,h1,h2⟩:=h
   simp only [List.eraseIdx_cons_succ,aD]
   exact ⟨v,_,rfl,h1,aD.eraseIdx i h2⟩
theorem oD {α β:Type} (f:α->β):∀ (l:List α) (i:Nat),(l.eraseIdx i).map f=(l.map f).eraseIdx i
 | [],i=>by simp
 | x::l,0=>by simp
 | x::l,i+1=>by simp [oD f l i]
theorem GM {α:Type} {l m:List α} (h:l.Perm m) {i j:Nat} {e:α} (hi:l[i]?=some e) (hj:m[j]?=some e):(l.eraseIdx i).Perm (m.eraseIdx j):=by
 obtain ⟨h1,h2⟩:=dC.1 hi
 obtain ⟨h3,h4⟩:=dC.1 hj
 have el:l=l.take i++e::l.drop (i+1):=by
  conv=>lhs; rw [<- List.take_append_drop i l,ib h1,h2]
 have em:m=m.take j++e::m.drop (j+1):=by
  conv=>lhs; rw [<- List.take_append_drop j m,ib h3,h4]
 have hp:(l.take i++e::l.drop (i+1)).Perm (m.take j++e::m.drop (j+1)):=by rw [<- el,<- em]; exact h
 have h5:=(List.perm_middle.symm.trans hp).trans List.perm_middle
 rw [List.eraseIdx_eq_take_drop_succ,List.eraseIdx_eq_take_drop_succ]
 exact List.Perm.cons_inv h5
theorem Kk {es:List MapEntry} (hn:(es.map (·.born)).Nodup) {seen:Array Nat} {e:MapEntry} {j:Nat} (hj:(es.filter fun x=>!seen.contains x.born)[j]?=some e) :
 (es.filter fun x=>!(seen.push e.born).contains x.born)=(es.filter fun x=>!seen.contains x.born).eraseIdx j:=by
 have e1:(es.filter fun x=>!(seen.push e.born).contains x.born)=(es.filter fun x=>!seen.contains x.born).filter fun x=>x.born != e.born:=by
  rw [List.filter_filter]
  apply List.filter_congr
  intro x _
  simp only [Array.contains_push,Bool.not_or]
  rw [Bool.and_comm]
  congr 1
 rw [e1]
 have C5:((es.filter fun x=>!seen.contains x.born).map (·.born)).Nodup:=List.Nodup.sublist (List.Sublist.map _ List.filter_sublist) hn
 generalize (es.filter fun x=>!seen.contains x.born)=l at hj C5
 clear e1 hn es
 induction l generalizing j with
 | nil=>simp at hj
 | cons y l ih =>
   simp only [eh,List.nodup_cons] at C5
   cases j with
   | zero =>
     simp at hj; subst hj
     simp only [List.filter_cons,bne_self_eq_false,bQ,if_false,List.eraseIdx_zero,List.tail_cons]
     rw [List.filter_eq_self]
     intro x hx
     simp only [bne_iff_ne,ne_eq]
     intro he
     exact C5.1 (he ▸ List.mem_map_of_mem hx)
   | succ j =>
     simp only [List.getElem?_cons_succ] at hj
     have cr:y.born ≠ e.born:=fun he=>C5.1 (he ▸ List.mem_map_of_mem (gr hj))
     simp only [List.filter_cons,bne_iff_ne,ne_eq,cr,not_false_eq_true,if_true,List.eraseIdx_cons_succ]
     rw [ih hj C5.2]
theorem NR (h:bo g U w) {i:AV} {v:Value} {ty:TypeId} (hi:ay g i v):aC.Fits C g U (sL i U) ((do let x <- Instr.next v false ty; pure (Next.value x):Sem Next).run C.P w):=by
 unfold sL
 split
 . rename_i o
   simp only [ay] at hi
   obtain ⟨p,hp,rfl⟩:=hi
   split
   . rename_i cur hit
     obtain ⟨p',k1,k2,m,es,clock,seen,k3,k4,⟨l,k5,k6,k7⟩,k8⟩:=h.live o _ (St.xU.1 hit)
     rw [hp] at k1; cases k1
     obtain ⟨q1,q2⟩:=h.bY m es clock k4
     simp only [nF,aD,List.map_eq_nil_iff] at k6
     subst k6
     have Em:=k5.symm.eq_nil
     have PB:(getObj p.aF).run C.P w=.ok (.mapIter (some m) clock seen clock) w:=by simp [getObj,Sem.run,k3]
     have PC:(getObj m).run C.P w=.ok (.map es clock) w:=by simp [getObj,Sem.run,q1]
     have M9:(!seen.isEmpty && !es.isEmpty && es.all (fun e=>decide (e.born >= clock)))=false:=by
      cases he:es.isEmpty
      . have:es.all (fun e=>decide (e.born >= clock))=false:=by
         rw [Array.all_eq_false]
         have h0:0 < es.size:=by
          rcases Nat.eq_zero_or_pos es.size with h0 | h0
          . simp [Array.isEmpty,h0] at he
          . exact h0
         refine ⟨0,h0,?_⟩
         have:=q2.2 es[0] (by simp)
         simp; omega
        simp [this]
      . simp
     have adT:(es.filter fun e=>!seen.contains e.born)=#[]:=by
      apply Array.ext'
      simpa using Em
     simp only [Instr.next,ck,PB,cK,PC,M9,fE,bQ,if_false,cP,adT]
     have e2:(#[]:Array MapEntry).filter (fun e=>decide (e.born < clock))=#[]:=by simp
     have e3:(#[]:Array MapEntry).filter (fun e=>decide (e.born >= clock))=#[]:=by simp
     simp [choose,Sem.run,Question.forced,Result.andThen]
     exact a8 h (by simp only [ay,aD]; exact ⟨[.bool false],rfl,_,_,rfl,rfl,rfl⟩)
   . rename_i x xs cur hit
     obtain ⟨p',k1,k2,m,es,clock,seen,k3,k4,⟨l,k5,k6,k7⟩,k8⟩:=h.live o _ (St.xU.1 hit)
     rw [hp] at k1; cases k1
     obtain ⟨q1,q2⟩:=h.bY m es clock k4
     have PB:(getObj p.aF).run C.P w=.ok (.mapIter (some m) clock seen clock) w:=by simp [getObj,Sem.run,k3]
     have M9:(!seen.isEmpty && !es.isEmpty && es.all (fun e=>decide (e.born >= clock)))=false:=by
      cases he:es.isEmpty
      . have:es.all (fun e=>decide (e.born >= clock))=false:=by
         rw [Array.all_eq_false]
         have h0:0 < es.size:=by
          rcases Nat.eq_zero_or_pos es.size with h0 | h0
          . simp [Array.isEmpty,h0] at he
          . exact h0
         refine ⟨0,h0,?_⟩
         have:=q2.2 es[0] (by simp)
         simp; omega
        simp [this]
      . simp
     generalize hL:(es.filter fun e=>!seen.contains e.born)=L
     have Lh:(es.toList.filter fun e=>!seen.contains e.born)=L.toList:=by rw [<- hL]; simp
     rw [Lh] at k5
     have oc:∀ e ∈ L.toList,e ∈ es.toList:=fun e he=>by rw [<- Lh] at he; exact (List.mem_filter.1 he).1
     have hlen:l.length=xs.length+1:=by have:=k6.length; simpa using this
     have H4:L.size=xs.length+1:=by rw [<- hlen,k5.length_eq]; simp
     have hold:L.filter (fun e=>decide (e.born < clock))=L:=by
      apply Array.ext'
      rw [Array.toList_filter,List.filter_eq_self]
      intro e he
      have:=q2.2 e (oc e he)
      simpa using this
     have qx:L.filter (fun e=>decide (e.born >= clock))=#[]:=by
      apply Array.ext'
      rw [Array.toList_filter]
      apply List.filter_eq_nil_iff.2
      intro e he
      have:=q2.2 e (oc e he)
      simp; omega
     have hem:L.isEmpty=false:=by simp [Array.isEmpty,H4]
     have key:∀ (w1:World) (c:Nat),w1.heap=w.heap->w1.os=w.os->w1.tape=w.tape->w1.output=w.output->c < L.size ->
      ∀ e,L[c]?=some e->∃ u w' g' v x',(setObj p.aF (.mapIter (some m) clock (seen.push e.born) clock)).run C.P w1=.ok () w'/\u=Value.tuple #[.bool true,e.key,e.val] /\
       (v,x') ∈ (tQ (x::xs)).map (fun p=>(AV.aH [.bool true,p.1.1,p.1.2],Live.iter p.2 (some p.1)))/\Gh.Le g g'/\bo g' (U.set o x') w'/\ay g' v u:=fun w1 c e1 e2 e3 e4 hc e he=>by
      have mV:L.toList[c]?=some e:=by rw [lO]; exact he
      obtain ⟨a,ha⟩:=List.getElem?_of_mem (k5.mem_iff.2 (gr mV))
      have H6:a < (x::xs).length:=by
       have:=(dC.1 ha).1
       rw [hlen] at this; simpa using this
      have Ly:(x::xs)[a]?=some ((x::xs)[a]):=pU H6
      generalize (x::xs)[a]=kv at Ly
      obtain ⟨vk,dG,qO⟩:=k6.get (i:=a) (x:=kv.1) (by rw [nE,Ly]; rfl)
      obtain ⟨vv,hvv,gz⟩:=k7.get (i:=a) (x:=kv.2) (by rw [nE,Ly]; rfl)
      rw [nE,ha] at dG hvv
      simp at dG hvv
      subst dG hvv
      have En:(setObj p.aF (.mapIter (some m) clock (seen.push e.born) clock)).run C.P w1=.ok () { w1 with heap:=w1.heap.setIfInBounds p.aF (.mapIter (some m) clock (seen.push e.born) clock) }:=by
       simp [setObj,Sem.run,e1,k3]
      have aQ:=(lN.1 k3).1
      refine ⟨_,_,g,_,_,En,rfl,List.mem_map.2 ⟨_,Gg Ly,rfl⟩,Gh.Le.refl g,?_,?_⟩
      . refine h.rewrite (St.xU.1 hit) hp ⟨e2,e3,e4,by simp [e1]⟩ (fun k hk _=>by simp only [e1]; exact Array.getElem?_setIfInBounds_ne (Ne.symm hk)) (fun o=>?_) ?_ ?_
        . cases ei:g.ct p.aF o with
          | none=>rfl
          | some u=>have:=(h.ct _ _ _ ei).1; simp [World.cell?,k3] at this
        . cases ei:g.bY p.aF with
          | none=>rfl
          | some u=>have:=(h.bY _ _ _ ei).1; rw [k3] at this; cases this
        . refine ⟨m,es,clock,seen.push e.born,by simp [e1,aQ],k4,⟨l.eraseIdx a,?_,?_,?_⟩,e,?_,by simp,qO,gz⟩
          . have Bi:(es.toList.filter fun e=>!seen.contains e.born)[c]?=some e:=by rw [Lh]; exact mV
            rw [Kk q2.1 Bi,Lh]
            exact GM k5 ha mV
          . rw [oD,oD]; exact k6.eraseIdx a
          . rw [oD,oD]; exact k7.eraseIdx a
          . exact oc e (gr mV)
      . simp only [ay,aD]
        exact ⟨_,rfl,_,_,rfl,rfl,_,_,rfl,qO,_,_,rfl,gz,rfl⟩
     have It:∀ (n:Nat) (w1:World),(choose (.mapNext L.size)).run C.P w=.ok n w1->w1.heap=w.heap->w1.os=w.os->w1.tape=w.tape->w1.output=w.output->n < L.size ->
      aC.Fits C g U (.mj o ((tQ (x::xs)).map fun p=>(.aH [.bool true,p.1.1,p.1.2],.iter p.2 (some p.1)))) ((do let x <- Instr.next (.pointer (some ⟨p.aF,0,none⟩)) false ty; pure (Next.value x):Sem Next).run C.P w):=fun n w1 hch e1 e2 e3 e4 hn=>by
      have PC:(getObj m).run C.P w=.ok (.map es clock) w:=by simp [getObj,Sem.run,q1]
      have hLn:L[n]?=some L[n]:=by simp [hn]
      generalize L[n]=e at hLn
      obtain ⟨u,w',g',v,x',r1,r2,r3,r4,r5,r6⟩:=key w1 n e1 e2 e3 e4 hn e hLn
      have adL:((#[]:Array (Option MapEntry))++(L++#[]).map some).size=L.size:=by simp
      have hcn:((#[]:Array (Option MapEntry))++(L++#[]).map some)[n]?=some (some e):=by simp [hLn]
      simp only [Instr.next,ck,PB,cK,PC,M9,fE,bQ,if_false,cP,hL,hold,qx,hem,adL,hch,hcn,r1]
      exact ⟨_,w',g',v,x',rfl,r3,r4,r5,by rw [<- r2]; exact r6⟩
     by_cases hf:L.size <= 1
     . refine It 0 w ?_ rfl rfl rfl rfl (by omega)
       simp [choose,Sem.run,Question.forced,hf]
     . refine It (w.tape w.drawn (.mapNext L.size) % L.size) w.drew ?_ rfl rfl rfl rfl (Nat.mod_lt _ (by omega))
       have hfq:Question.forced (.mapNext L.size)=false:=by simp only [Question.forced,decide_eq_false_iff_not]; exact hf
       simp only [choose,Sem.run,hfq,bQ,if_false,Question.cut]
       rfl
   . trivial
 . trivial
theorem Kf (h:bo g U w) {i:AV} {v:Value} (hi:ay g i v):aC.Fits C g U (nu i U) ((do let x <- Instr.entry v; pure (Next.value x):Sem Next).run C.P w):=by
 unfold nu
 split
 . rename_i o
   simp only [ay] at hi
   obtain ⟨p,hp,rfl⟩:=hi
   split
   . rename_i rest kv hit
     obtain ⟨p',k1,k2,m,es,clock,seen,k3,k4,_,e,k5,k6,k7,k8⟩:=h.live o _ (St.xU.1 hit)
     rw [hp] at k1; cases k1
     obtain ⟨q1,q2⟩:=h.bY m es clock k4
     have PB:(getObj p.aF).run C.P w=.ok (.mapIter (some m) clock seen clock) w:=by simp [getObj,Sem.run,k3]
     have PC:(getObj m).run C.P w=.ok (.map es clock) w:=by simp [getObj,Sem.run,q1]
     have Nh:es.find? (fun x=>x.born == e.born)=some e:=by
      rw [<- Array.find?_toList]
      have hn:=q2.1
      generalize es.toList=l at k5 hn
      induction l with
      | nil=>simp at k5
      | cons y l ih =>
        simp only [eh,List.nodup_cons] at hn
        rw [List.find?_cons]
        rcases cJ.1 k5 with rfl | hm
        . simp
        . have:(y.born == e.born)=false:=by
           simp only [beq_eq_false_iff_ne,ne_eq]
           intro he
           exact hn.1 (he ▸ List.mem_map_of_mem hm)
          rw [this]
          exact ih hm hn.2
     simp only [Instr.entry,ck,PB,cK,k6,PC,bne_self_eq_false,bQ,if_false,fE,cP,Nh]
     exact a8 h (by simp only [ay,aD]; exact ⟨_,rfl,_,_,rfl,k7,_,_,rfl,k8,rfl⟩)
   . trivial
 . trivial
theorem Ba (hG:iU C g) {ρ:Env} {a:Act} (hr:ia g ρ a.tmps) (parts:Array (Nat × Operand)) :
 (parts.map fun (i,x)=>(i,a.eval x)).size=(nv C ρ parts).length/\∀ (i:Nat) (p:Nat × AV) (q:Nat × Value),(nv C ρ parts)[i]?=some p->(parts.map fun (i,x)=>(i,a.eval x))[i]?=some q->p.1=q.1/\ay g p.2 q.2:=by
 refine ⟨by simp [nv],fun i p q h1 h2=>?_⟩
 simp only [nv,nE,lO,pV] at h1
 obtain ⟨y,hy,rfl⟩:=h1
 simp only [Array.getElem?_map,hy,Option.map_some,ji] at h2
 subst h2
 exact ⟨rfl,ui hG hr _⟩
theorem Mb (hG:iU C g) {ρ:Env} {a:Act} (hr:ia g ρ a.tmps) (x:Option Operand):match x.map (ρ.ev C),x.map a.eval with | none,none=>True | some x,some u=>ay g x u | _,_=>False:=by
 cases x with
 | none=>trivial
 | some x=>exact ui hG hr x
theorem DH {P:Program} {w:World} {t u ty e:TypeId} {i:TypeInfo} {z:Value} {k k':IntKind} (ht:P.underlying t=some (.slice e)) (hu:P.underlying u=some (.int k')) (hi:P.info? e=some i) (hz:i.zero=some z) (CW:i.bytes <= 32768) (hp:0 < i.size)
 {n:Nat} (h0:0 < n) (hn:n <= 65536) :
 (Builtin.append_ #[t,u] ty #[.slice none 0 0,.int k (n:Int)]).run P w =
   .ok (.slice (some ⟨w.heap.size,0,none⟩) n (grownCap w n 0 e))
    (w.drew.alloc (.cells (Builtin.zeroCells z.cells n++Builtin.zeroCells z.cells (grownCap w n 0 e - n)) e)):=by
 have ad3:IntKind.i64.wrap (n:Int)=n:=yI ⟨by omega,by omega⟩
 have Us:¬ (9223372036854775807 < (n:Int)):=by omega
 have iW:n * i.bytes <= 140737488355328:=Nat.le_trans (Nat.mul_le_mul hn CW) (by omega)
 have Po:=growslice_fits (old:=0) (need:=n) (bytes:=i.bytes) (by omega) iW
 have Ur:¬ (281474976710656 < Builtin.nextslicecap n 0 * i.bytes):=by omega
 have lu:¬ ((281474976710656:Int) < (n:Int) * (i.bytes:Int)):=by
  have:(n:Int) * (i.bytes:Int)=((n * i.bytes:Nat):Int):=by simp
  omega
 have PL:¬ (n=0\/i.size=0):=by omega
 have afv:¬ ((n:Int) < 0):=by omega
 simp [Builtin.append_,run_underlying ht,run_underlying hu,sizeOf,typeInfo,zeroValue,hi,hz,ad3,Us,Ur,lu,PL,afv,Question.forced,newRow,grownCap,asInt,asIntOf,Builtin.firstCells]
 have e1:n ≠ 0:=by omega
 have e2:n * i.size ≠ 0:=Nat.mul_ne_zero e1 (by omega)
 rw [if_neg e1,if_neg e2]
theorem M5 {P:Program} {t u:TypeId} {q:TypeId × Nat × List AV} (h:CT P t u=some q):∃ k,P.underlying u=some (.int k)/\fJ P t=some (q.1,q.2.1)/\qt P q.1=some q.2.2:=by
 unfold CT at h
 split at h
 . rename_i k hu
   split at h
   . rename_i e sz hs
     split at h
     . rename_i z hz
       cases h
       exact ⟨k,hu,hs,hz⟩
     . cases h
   . cases h
 . cases h
theorem M4 (h:bo g U w) {t u ty:TypeId} {mu:Bool} {q:TypeId × Nat × List AV} (hq:CT C.P t u=some q) {s y:AV} {v v2:Value} (hs:ay g s v) (hy:ay g y v2) :
 aC.Fits C g U (GW q mu s y) ((do let r <- Builtin.append_ #[t,u] ty #[v,v2]; pure (Next.value r):Sem Next).run C.P w):=by
 obtain ⟨k',hu,ux,hz⟩:=M5 hq
 unfold GW
 split
 . rename_i k n
   rintro ⟨h0,h1⟩
   obtain ⟨i,zv,ht,hi,pj,wQ,fh,oT,CW,hz1⟩:=jl ux
   obtain ⟨i',zv',lJ,FD,hm⟩:=oy hz
   rw [hi] at lJ; cases lJ
   rw [pj] at FD; cases FD
   obtain ⟨h2,h3⟩:=ff (g:=g) hm
   simp only [ay] at hs hy
   subst hs hy
   obtain ⟨m,rfl⟩:∃ m:Nat,n=m:=⟨n.toNat,by omega⟩
   simp only [jH]
   have lI:=grownCap_ge w m 0 q.1
   have hle:=grownCap_le_maxLen w m 0 q.1 (by unfold maxLen; omega)
   rw [ck,DH (k:=k) ht hu hi pj CW (by omega) (by omega) (by omega)]
   have eU:=h.grow (lG w)
   have zz:=tW (g:=g) h2 m
   have IH:q.2.2.length=i.size:=by have:=h2.length; simp at this; omega
   have B6:=ng h3 m (by omega)
   have WI:=ng h3 (grownCap w m 0 q.1 - m) (by omega)
   have hlen:(Builtin.zeroCells zv.cells m).toList.length+(Builtin.zeroCells zv.cells (grownCap w m 0 q.1 - m)).toList.length=grownCap w m 0 q.1 * q.2.1:=by
    rw [tp,tp,size_zeroCells,size_zeroCells,wQ,<- Nat.add_mul,<- fh]
    congr 1; omega
   have ew:Builtin.zeroCells zv.cells m++Builtin.zeroCells zv.cells (grownCap w m 0 q.1 - m)=((Builtin.zeroCells zv.cells m).toList++(Builtin.zeroCells zv.cells (grownCap w m 0 q.1 - m)).toList).toArray:=by simp
   rw [ew]
   simp only [cK,cP]
   cases mu
   . exact p5 eU zz B6 WI (by rw [mf,IH,fh]) hlen lI hle
   . exact rk eU zz B6 WI hlen lI hle
 . trivial
theorem OS (h:bo g U w) {t ty:TypeId} {x:AV} {v:Value} (hx:ay g x v) :
 aC.Fits C g U (HC (fJ C.P t) x) ((do let r <- Builtin.cap_ #[t] ty #[v]; pure (Next.value r):Sem Next).run C.P w):=by
 unfold HC
 split
 . rename_i q hq
   obtain ⟨e,sz⟩:=q
   obtain ⟨i,z,ht,_⟩:=jl hq
   simp only [ay] at hx
   subst hx
   have:(Builtin.cap_ #[t] ty #[.slice none 0 0]).run C.P w=.ok (.int .i64 0) w:=by simp [Builtin.cap_,run_underlying ht]; rfl
   rw [ck,this]
   exact a8 h (by simp only [ay])
 . trivial
theorem Ht (h:bo g U w) {t u ty:TypeId} {mu:Bool} {s y:AV} {v v2:Value} (hs:ay g s v) (hy:ay g y v2) :
 aC.Fits C g U (Aq C.P t u mu s y U) ((do let r <- Builtin.append_ #[t,u] ty #[v,v2]; pure (Next.value r):Sem Next).run C.P w):=by
 unfold Aq
 split
 . rename_i q hq
   exact M4 h hq hs hy
 . exact Hs h hs hy
theorem MG (h:bo g U w) (hG:iU C g) {ρ:Env} {a:Act} (hr:ia g ρ a.tmps) (mu:Bool) (c:Call) (ty:TypeId) :
 aC.Fits C g U (Ax C mu c ρ U) ((do let d <- resolve a.eval c ty; invoke d.target d.args:Sem Next).run C.P w):=by
 obtain ⟨callee,⟨args⟩,⟨argTypes⟩⟩:=c
 have e:=fun x=>ui hG hr x
 have fin:aC.Fits C g U (match callee,argTypes,args with
  | .value f,_,args=>jk C.P (ρ.ev C f) (args.map (ρ.ev C))
  | .builtin .len,[t],[x]=>IY C.P t (ρ.ev C x) U
  | .builtin .append,[t,u],[s,y]=>Aq C.P t u mu (ρ.ev C s) (ρ.ev C y) U
  | .builtin .cap,[t],[x]=>HC (fJ C.P t) (ρ.ev C x)
  | .builtin .min,_,[x,y]=>zJ (ρ.ev C x) (ρ.ev C y)
  | .builtin .max,_,[x,y]=>Cc (ρ.ev C x) (ρ.ev C y)
  | .builtin .clear,[t],[x]=>ze C.P t (ρ.ev C x) U
  | _,_,_=>.bad) ((do let d <- resolve a.eval ⟨callee,⟨args⟩,⟨argTypes⟩⟩ ty; invoke d.target d.args:Sem Next).run C.P w):=by
  split
  . rename_i f
    have:=Uj (C:=C) h (e f) (Az hG hr args)
    have e2:(args.map a.eval).toArray=(⟨args⟩:Array Operand).map a.eval:=by simp
    rw [e2] at this
    exact this
  . rename_i t x
    have:=Qg (C:=C) (ty:=ty) h (t:=t) (e x)
    simpa only [resolve,invoke,builtin,ck,cP,cK,List.map_toArray,eh,nF] using this
  . rename_i t u s y
    have:=Ht (C:=C) (ty:=ty) (mu:=mu) h (t:=t) (u:=u) (e s) (e y)
    simpa only [resolve,invoke,builtin,ck,cP,cK,List.map_toArray,eh,nF] using this
  . rename_i t x
    have:=OS (C:=C) (ty:=ty) h (t:=t) (e x)
    simpa only [resolve,invoke,builtin,ck,cP,cK,List.map_toArray,eh,nF] using this
  . rename_i x y
    have:=Ql (C:=C) (ty:=ty) (ts:=⟨argTypes⟩) h (e x) (e y)
    simpa only [resolve,invoke,builtin,ck,cP,cK,List.map_toArray,eh,nF] using this
  . rename_i x y
    have:=Qk (C:=C) (ty:=ty) (ts:=⟨argTypes⟩) h (e x) (e y)
    simpa only [resolve,invoke,builtin,ck,cP,cK,List.map_toArray,eh,nF] using this
  . rename_i t x
    have:=Ka (C:=C) (ty:=ty) h (t:=t) (e x)
    simpa only [resolve,invoke,builtin,ck,cP,cK,List.map_toArray,eh,nF] using this
  . trivial
 exact fin
theorem U3 (h:bo g U w) (hG:iU C g) {ρ:Env} {a:Act} (hr:ia g ρ a.tmps) (mu:Bool) (o:Oper):aC.Fits C g U (kn C mu o.op ρ U) ((execOp a.eval o).run C.P w):=by
 have e:=fun x=>ui hG hr x
 obtain ⟨dst,op,type,pos,after,guard⟩:=o
 unfold kn
 dsimp only
 split
 . exact a8 h (e _)
 . exact a8 h (e _)
 . rename_i c x y
   unfold bM
   split
   . rename_i t ht
     have hc:=e c
     rw [ht] at hc
     simp only [ay] at hc
     simp only [execOp,hc,asBool,ck,cP,cK]
     refine a8 h ?_
     cases t
     . exact e _
     . exact e _
   . trivial
 . exact J3 h
 . exact OL h (e _)
 . obtain ⟨h1,h2⟩:=Ba hG hr ‹_›
   exact J7 h h1 h2
 . obtain ⟨h1,h2⟩:=Ba hG hr ‹_›
   exact BX h h1 h2
 . exact vq h (e _) (e _) (e _)
 . exact vq h (e _) (e _) (e _)
 . exact NH h (e _)
 . exact KO h (e _) (e _)
 . exact EB h rfl (e _)
 . exact OI h _ _ (e _) (e _)
 . exact VV h (e _)
 . exact ML h (e _)
 . exact Dj h (e _)
 . rename_i fn first cap
   simp only [execOp,Instr.makeFunc,ck,cP,cK]
   refine a8 h ?_
   simp only [ay]
   exact ⟨first.toList.map a.eval,cap.toList.map a.eval,by congr 1 <;> (apply Array.ext'; simp),Az hG hr _,Az hG hr _⟩
 . simp only [execOp,Instr.makeMap,Option.map_none,ck,cP,cK,run_newObj]
   exact NQ h
 . exact KN h (e _) (Mb hG hr _) (Mb hG hr _)
 . exact CN h (e _)
 . exact Eh h (e _)
 . exact Da h (e _) (e _)
 . exact Ks h (e _) (e _)
 . exact I8 h (e _) (e _)
 . exact GI h (e _) _
 . exact KF h (e _)
 . exact KH h (e _)
 . exact Cy h (e _)
 . exact Dk h (e _) (e _)
 . exact NR h (e _)
 . exact Kf h (e _)
 . exact MG h hG hr mu _ _
 . trivial
end
end Go.Rip
