/- Lemmas for the proof: no conditions. -/
import Derived.Test.YtnfpmiiopiinbaaGreatDoorRipZz
import Derived.RangeFuncIn
import Derived.Laws.AppendOwn
import Derived.Below
import Derived.Laws.StructEq
import Derived.Lib.ConvBytes
import Derived.RangeFuncLeaves
import Derived.RangeFuncCalls
import Derived.Laws.MakeOwn
set_option linter.unusedVariables false
set_option linter.unusedSimpArgs false
set_option linter.loopingSimpArgs false
namespace Go.Rip
open Go.RowKit
structure Tok where
 n:Nat
 e:TypeId
 size:Nat
 deriving DecidableEq
inductive kf where
 | full
 | own (τ:Nat)
 | eR
inductive AV where
 | bool (b:Bool)
 | int (k:IntKind) (n:Int)
 | str (s:List UInt8)
 | aU
 | ag
 | ji
 | c6
 | cS
 | box (b off:Nat)
 | ca (l:List AV)
 | vec (n:Nat) (cap:kf) (l:List AV)
 | ms (b off n gy:Nat) (e:TypeId)
 | mp (m:Nat)
 | eD (ks vs:List AV)
 | func (fn:Fn) (first captured:List AV)
 | iface (t:TypeId) (v:AV)
 | agg (l:List AV)
 | aQ (l:List AV)
 | qf (o:Nat)
 | it (o:Nat)
 | any
instance:Inhabited AV:=⟨.any⟩
structure Place where
 aE:Nat
 e:TypeId
 size:Nat
structure eY where
 ρ:Nat->AV
 nt:Nat
 params:Array Tmp
 assign:Code
 body:Code
 state:LoopState
 eF:Option Code
 tag:Nat
inductive Live where
 | box (l:List AV)
 | tok (t:Tok)
 | mp (ks vs:List AV)
 | loop (L:eY)
 | iter (rest:List (AV×AV)) (cur:Option (AV×AV))
 | yN (t:TypeId) (l:List AV)
structure Gh where
 base:Nat
 w0:World
 place:Nat->Option Place
 bT:Nat->Nat->Option Value
 bL:Nat->Option (Array MapEntry×Nat)
 res:Nat->Bool
def Gh.box (g:Gh) (b:Nat):Option Place:=g.place b
def Gh.tok (g:Gh) (b:Nat):Option (Nat×Nat):=(g.place b).map λ p=>(p.aE,p.size)
def Gh.mp (g:Gh) (b:Nat):Option Nat:=(g.place b).map (·.aE)
theorem Gh.iY {g:Gh} {b:Nat} {x:Nat×Nat}:g.tok b=some x↔∃ p,g.place b=some p/\p.aE=x.1/\p.size=x.2:=by
 unfold Gh.tok;cases g.place b with
 | none=>simp
 | some p=>simp[Prod.ext_iff]
theorem Gh.nG {g:Gh} {b:Nat} {x:Nat}:g.mp b=some x↔∃ p,g.place b=some p/\p.aE=x:=by
 unfold Gh.mp;cases g.place b with
 | none=>simp
 | some p=>simp
def jD (g:Gh) (aE off:Nat) (vs:List Value):Prop:=∀ i u,vs[i]?=some u->g.bT aE (off+i)=some u
def rR (g:Gh) (cap:kf) (aE off n c:Nat):Prop :=
 match cap with
 | .full=>c=n
 | .own τ=>off=0/\g.tok τ=some (aE,c)
 | .eR=>True
def gM:AV->AV->Bool
 | .int k a,.int k' b=>decide (k=k')&&decide (a<b)
 | .str a,.str b=>decide (a<b)
 | _,_=>false
def nx (ks:List AV):Prop:=ks.Pairwise (λ a b=>gM a b=true)
def iZ (es:Array MapEntry) (clock:Nat):Prop:=(es.toList.map (·.born)).Nodup/\∀ e∈es.toList,e.born<clock
mutual
def av (g:Gh):AV->Value->Prop
 | .bool b,v=>v=.bool b
 | .int k n,v=>v=.int k n
 | .str s,v=>v=.string ⟨s.toArray⟩
 | .aU,v=>v=.pointer none
 | .ag,v=>v=.slice none 0 0
 | .ji,v=>v=.map none
 | .c6,v=>v=.nilFunc
 | .cS,v=>v=.nilIface
 | .box b off,v=>∃ x,g.box b=some x/\v=.pointer (some ⟨x.aE,off,none⟩)
 | .ca l,v=>∃ aE off vs,v=.pointer (some ⟨aE,off,none⟩)/\jD g aE off vs/\aC g l vs
 | .vec n cap l,v=>∃ aE off c vs,v=.slice (some ⟨aE,off,none⟩) n c/\n<=c/\c<=maxLen/\rR g cap aE off n c/\jD g aE off vs/\aC g l vs
 | .ms b off n gy e,v=>∃ x c,g.box b=some x/\v=.slice (some ⟨x.aE,off,none⟩) n c/\n<=c/\c<=maxLen/\off+c*gy=x.size/\x.e=e
 | .mp m,v=>∃ r,g.mp m=some r/\v=.map (some r)
 | .eD ks vs,v=>∃ r es clock,∃ l:List MapEntry,v=.map (some r)/\g.bL r=some (es,clock)/\l.Perm es.toList/\nx ks/\aC g ks (l.map (·.key))/\aC g vs (l.map (·.val))
 | .func fn first captured,v=>∃ fs cs,v=.func fn (List.toArray fs) (List.toArray cs)/\aC g first fs/\aC g captured cs
 | .iface t x,v=>∃ u,v=.iface t u/\av g x u
 | .agg l,v=>∃ vs,v=.agg (List.toArray vs)/\(∀ u∈vs,u.oneCell'=true)/\aC g l vs
 | .aQ l,v=>∃ vs,v=.tuple (List.toArray vs)/\aC g l vs
 | .qf o,v=>∃ x,g.place o=some x/\v=.func (.yield x.aE) #[] #[]
 | .it o,v=>∃ x,g.place o=some x/\v=.pointer (some ⟨x.aE,0,none⟩)
 | .any,_=>True
def aC (g:Gh):List AV->List Value->Prop
 | [],vs=>vs=[]
 | x::xs,vs=>∃ u us,vs=u::us/\av g x u/\aC g xs us
end
structure Gh.Le (g g':Gh):Prop where
 base:g'.base=g.base
 w0:g'.w0=g.w0
 place:∀ b x,g.place b=some x->g'.place b=some x
 bT:∀ b o x,g.bT b o=some x->g'.bT b o=some x
 bL:∀ b x,g.bL b=some x->g'.bL b=some x
 res:∀ b,g.res b=true->g'.res b=true
 wC:∀ b o,b<g.base->g'.bT b o=g.bT b o
 tD:∀ b,b<g.base->g'.bL b=g.bL b
theorem Gh.Le.refl (g:Gh):Gh.Le g g:=⟨rfl,rfl,λ _ _ h=>h,λ _ _ _ h=>h,λ _ _ h=>h,λ _ h=>h,λ _ _ _=>rfl,λ _ _=>rfl⟩
theorem Gh.Le.trans {a b c:Gh} (h:Gh.Le a b) (k:Gh.Le b c):Gh.Le a c :=
 ⟨k.base.trans h.base,k.w0.trans h.w0,λ _ _ x=>k.place _ _ (h.place _ _ x),λ _ _ _ x=>k.bT _ _ _ (h.bT _ _ _ x),λ _ _ x=>k.bL _ _ (h.bL _ _ x),λ _ x=>k.res _ (h.res _ x),
   λ q o hq=>(k.wC q o (by rw[h.base]; exact hq)).trans (h.wC q o hq),λ q hq=>(k.tD q (by rw[h.base]; exact hq)).trans (h.tD q hq)⟩
structure Gh.qP (g g':Gh):Prop where
 place:∀ b x,g.place b=some x->g'.place b=some x
 bT:∀ b o x,g.bT b o=some x->g'.bT b o=some x
 bL:∀ b x,g.bL b=some x->g'.bL b=some x
theorem Gh.qP.tok {g g':Gh} (h:Gh.qP g g') {b:Nat} {x:Nat×Nat} (hb:g.tok b=some x):g'.tok b=some x:=by
 obtain⟨p,h1,h2,h3⟩:=Gh.iY.1 hb;exact Gh.iY.2 ⟨p,h.place _ _ h1,h2,h3⟩
theorem Gh.qP.mp {g g':Gh} (h:Gh.qP g g') {b x:Nat} (hb:g.mp b=some x):g'.mp b=some x:=by
 obtain⟨p,h1,h2⟩:=Gh.nG.1 hb;exact Gh.nG.2 ⟨p,h.place _ _ h1,h2⟩
theorem Gh.Le.r {g g':Gh} (h:Gh.Le g g'):Gh.qP g g':=⟨h.place,h.bT,h.bL⟩
theorem Gh.Le.box {g g':Gh} (h:Gh.Le g g') (b:Nat) (x:Place) (hb:g.box b=some x):g'.box b=some x:=h.place b x hb
theorem Gh.Le.tok {g g':Gh} (h:Gh.Le g g') (b:Nat) (x:Nat×Nat) (hb:g.tok b=some x):g'.tok b=some x:=h.r.tok hb
theorem Gh.Le.mp {g g':Gh} (h:Gh.Le g g') (b:Nat) (x:Nat) (hb:g.mp b=some x):g'.mp b=some x:=h.r.mp hb
theorem jD.dI {g g':Gh} (h:Gh.qP g g') {aE off:Nat} {vs:List Value} (hi:jD g aE off vs):jD g' aE off vs:=λ i u hu=>h.bT _ _ _ (hi i u hu)
theorem rR.dI {g g':Gh} (h:Gh.qP g g') {cap:kf} {aE off n c:Nat} (hi:rR g cap aE off n c):rR g' cap aE off n c:=by
 cases cap with
 | full=>exact hi
 | own τ=>exact⟨hi.1,h.tok hi.2⟩
 | eR=>trivial
mutual
theorem av.dI {g g':Gh} (h:Gh.qP g g'):∀ (x:AV) (v:Value),av g x v->av g' x v
 | .bool _,_,hr=>hr
 | .int _ _,_,hr=>hr
 | .str _,_,hr=>hr
 | .aU,_,hr=>hr
 | .ag,_,hr=>hr
 | .ji,_,hr=>hr
 | .c6,_,hr=>hr
 | .cS,_,hr=>hr
 | .box _ _,_,hr=>by
   simp only[av]at hr ⊢;obtain⟨x,hx,hv⟩:=hr;exact⟨x,h.place _ _ hx,hv⟩
 | .ca l,_,hr=>by
   simp only[av]at hr ⊢;obtain⟨aE,off,vs,hv,hi,hl⟩:=hr;exact⟨aE,off,vs,hv,hi.dI h,aC.dI h l vs hl⟩
 | .vec n cap l,_,hr=>by
   simp only[av]at hr ⊢;obtain⟨aE,off,c,vs,hv,h1,h2,hc,hi,hl⟩:=hr;exact⟨aE,off,c,vs,hv,h1,h2,hc.dI h,hi.dI h,aC.dI h l vs hl⟩
 | .ms _ _ _ _ _,_,hr=>by
   simp only[av]at hr ⊢;obtain⟨x,c,hx,r⟩:=hr;exact⟨x,c,h.place _ _ hx,r⟩
 | .mp _,_,hr=>by
   simp only[av]at hr ⊢;obtain⟨x,hx,hv⟩:=hr;exact⟨x,h.mp hx,hv⟩
 | .eD ks vs,_,hr=>by
   simp only[av]at hr ⊢;obtain⟨r,es,c,l,hv,he,hp,hs,h1,h2⟩:=hr;exact⟨r,es,c,l,hv,h.bL _ _ he,hp,hs,aC.dI h ks _ h1,aC.dI h vs _ h2⟩
 | .func fn first captured,_,hr=>by
   simp only[av]at hr ⊢;obtain⟨fs,cs,hv,h1,h2⟩:=hr;exact⟨fs,cs,hv,aC.dI h first _ h1,aC.dI h captured _ h2⟩
 | .iface t x,_,hr=>by
   simp only[av]at hr ⊢;obtain⟨u,hv,h1⟩:=hr;exact⟨u,hv,av.dI h x _ h1⟩
 | .agg l,_,hr=>by
   simp only[av]at hr ⊢;obtain⟨vs,hv,h0,h1⟩:=hr;exact⟨vs,hv,h0,aC.dI h l _ h1⟩
 | .aQ l,_,hr=>by
   simp only[av]at hr ⊢;obtain⟨vs,hv,h1⟩:=hr;exact⟨vs,hv,aC.dI h l _ h1⟩
 | .qf o,_,hr=>by
   simp only[av]at hr ⊢;obtain⟨x,hx,hv⟩:=hr;exact⟨x,h.place _ _ hx,hv⟩
 | .it o,_,hr=>by
   simp only[av]at hr ⊢;obtain⟨x,hx,hv⟩:=hr;exact⟨x,h.place _ _ hx,hv⟩
 | .any,_,_=>by simp only[av]
theorem aC.dI {g g':Gh} (h:Gh.qP g g'):∀ (l:List AV) (vs:List Value),aC g l vs->aC g' l vs
 | [],_,hr=>by simpa only[aC] using hr
 | x::xs,_,hr=>by
   simp only[aC]at hr ⊢;obtain⟨u,us,hv,h1,h2⟩:=hr;exact⟨u,us,hv,av.dI h x _ h1,aC.dI h xs _ h2⟩
end
theorem jD.mono {g g':Gh} (h:Gh.Le g g') {aE off:Nat} {vs:List Value} (hi:jD g aE off vs):jD g' aE off vs:=hi.dI h.r
theorem av.mono {g g':Gh} (h:Gh.Le g g') (x:AV) (v:Value) (hr:av g x v):av g' x v:=av.dI h.r x v hr
theorem aC.mono {g g':Gh} (h:Gh.Le g g') (l:List AV) (vs:List Value) (hr:aC g l vs):aC g' l vs:=aC.dI h.r l vs hr
theorem aC.length {g:Gh}:∀ {l:List AV} {vs:List Value},aC g l vs->vs.length=l.length
 | [],_,h=>by simp only[aC]at h; simp[h]
 | _::xs,_,h=>by
   simp only[aC]at h;obtain⟨u,us,rfl,_,h2⟩:=h;simp[aC.length h2]
theorem aC.append {g:Gh}:∀ {l l':List AV} {vs vs':List Value},aC g l vs->aC g l' vs'->aC g (l++l') (vs++vs')
 | [],_,_,_,h,h'=>by simp only[aC]at h; subst h; simpa using h'
 | _::xs,_,_,_,h,h'=>by
   simp only[aC,gY]at h ⊢;obtain⟨u,us,rfl,h1,h2⟩:=h;exact⟨u,us++_,rfl,h1,aC.append h2 h'⟩
theorem aC.get {g:Gh}:∀ {l:List AV} {vs:List Value} {i:Nat} {x:AV},aC g l vs->l[i]?=some x->∃ v,vs[i]?=some v/\av g x v
 | [],_,_,_,_,hx=>by simp at hx
 | y::xs,_,0,x,h,hx=>by
   simp only[aC]at h;obtain⟨u,us,rfl,h1,h2⟩:=h;simp at hx; subst hx; exact⟨u,rfl,h1⟩
 | y::xs,_,i+1,x,h,hx=>by
   simp only[aC]at h;obtain⟨u,us,rfl,h1,h2⟩:=h;simp at hx;obtain⟨v,hv,hr⟩:=aC.get h2 hx;exact⟨v,by simpa using hv,hr⟩
theorem aC.drop {g:Gh}:∀ {l:List AV} {vs:List Value} (n:Nat),aC g l vs->aC g (l.drop n) (vs.drop n)
 | _,_,0,h=>by simpa using h
 | [],_,n+1,h=>by simp only[aC]at h; subst h; simp[aC]
 | _::xs,_,n+1,h=>by
   simp only[aC]at h;obtain⟨u,us,rfl,h1,h2⟩:=h;simpa using aC.drop n h2
theorem aC.take {g:Gh}:∀ {l:List AV} {vs:List Value} (n:Nat),aC g l vs->aC g (l.take n) (vs.take n)
 | _,_,0,_=>by simp[aC]
 | [],_,n+1,h=>by simp only[aC]at h; subst h; simp[aC]
 | _::xs,_,n+1,h=>by
   simp only[aC]at h;obtain⟨u,us,rfl,h1,h2⟩:=h;simp only[List.take_succ_cons,aC];exact⟨u,_,rfl,h1,aC.take n h2⟩
theorem aC.Ax {g:Gh}:∀ {l:List AV} {vs:List Value},vs.length=l.length->(∀ (i:Nat) (x:AV) (v:Value),l[i]?=some x->vs[i]?=some v->av g x v)->aC g l vs
 | [],vs,hl,_=>by simp only[aC]; simpa using hl
 | x::xs,[],hl,_=>by simp at hl
 | x::xs,v::vs,hl,h=>by
   simp only[aC];exact⟨v,vs,rfl,h 0 x v rfl rfl,aC.Ax (by simpa using hl) λ i x v hx hv=>h (i+1) x v (by simpa using hx) (by simpa using hv)⟩
def ug (g:Gh) (ks vs:List AV) (es:Array MapEntry):Prop:=∃ l:List MapEntry,l.Perm es.toList/\nx ks/\aC g ks (l.map (·.key))/\aC g vs (l.map (·.val))
def zG (g:Gh) (es:Array MapEntry) (seen:Array Nat) (rest:List (AV×AV)) (cur:Option (AV×AV)):Prop :=
 (∃ l:List MapEntry,l.Perm (es.toList.filter λ e=>!seen.contains e.born)/\aC g (rest.map (·.1)) (l.map (·.key))/\aC g (rest.map (·.2)) (l.map (·.val))) /\
 (match cur with
  | none=>True
  | some (k,v)=>∃ e∈es.toList,seen.back?=some e.born/\av g k e.key/\av g v e.val)
def jE (g:Gh) (w:World) (p:Place):Live->Prop
 | .box l=>∃ cur vs rest,w.heap[p.aE]?=some (.cells cur p.e (0,0))/\cur.size=p.size/\cur.toList=vs++rest/\aC g l vs/\(∀ u∈cur.toList,u.oneCell'=true)/\(∀ o,g.bT p.aE o=none)
 | .tok t=>∃ cur,w.heap[p.aE]?=some (.cells cur t.e (0,0))/\cur.size=p.size*t.size/\t.n<=p.size/\p.size<=maxLen/\(∀ o,t.n*t.size<=o->g.bT p.aE o=none)
 | .mp ks vs=>∃ es clock,w.heap[p.aE]?=some (.map es clock)/\iZ es clock/\ug g ks vs es/\g.bL p.aE=none
 | .loop L=>∃ fn tmps defers,w.heap[p.aE]?=some (.loop { state:=L.state,pending:=L.eF,fn,tmps,params:=L.params,assign:=L.assign,body:=L.body,defers })/\tmps.size=L.nt/\∀ t,av g (L.ρ t) (tmps.getD t undef)
 | .iter rest cur=>∃ m es clock seen,w.heap[p.aE]?=some (.mapIter (some m) clock seen clock)/\g.bL m=some (es,clock)/\zG g es seen rest cur
 | .yN t l=>p.e=t/\p.size=l.length/\∃ cur vs rest,w.heap[p.aE]?=some (.cells cur p.e (0,0))/\cur.size=p.size/\cur.toList=vs++rest/\aC g l vs/\(∀ u∈cur.toList,u.oneCell'=true)/\(∀ o,g.bT p.aE o=none)
structure St where
 live:Nat->Option Live
 nb:Option Nat
def St.box (U:St) (b:Nat):Option (List AV):=match U.live b with|some (.box l)=>some l|some (.yN _ l)=>some l|_=>none
def St.tok (U:St) (b:Nat):Option Tok:=match U.live b with|some (.tok t)=>some t|_=>none
def St.mp (U:St) (b:Nat):Option (List AV×List AV):=match U.live b with|some (.mp ks vs)=>some (ks,vs)|_=>none
def St.loop (U:St) (b:Nat):Option eY:=match U.live b with|some (.loop L)=>some L|_=>none
def St.iter (U:St) (b:Nat):Option (List (AV×AV)×Option (AV×AV)):=match U.live b with|some (.iter r c)=>some (r,c)|_=>none
theorem St.qR {U:St} {b:Nat} {l:List AV} (h:U.box b=some l):∃ x,U.live b=some x/\∀ g w p,jE g w p x->jE g w p (.box l):=by
 unfold St.box at h;split at h
 . rename_i l' hl; cases h; exact⟨_,hl,λ _ _ _ h=>h⟩
 . rename_i t l' hl; cases h; exact⟨_,hl,λ _ _ _ h=>h.2.2⟩
 . cases h
theorem St.iY {U:St} {b:Nat} {l:Tok}:U.tok b=some l↔U.live b=some (.tok l):=by unfold St.tok; split<;>simp_all
theorem St.nG {U:St} {b:Nat} {l:List AV×List AV}:U.mp b=some l↔U.live b=some (.mp l.1 l.2):=by unfold St.mp; split<;>simp_all [Prod.ext_iff]
theorem St.kY {U:St} {b:Nat} {l:eY}:U.loop b=some l↔U.live b=some (.loop l):=by unfold St.loop; split<;>simp_all
theorem St.uH {U:St} {b:Nat} {l:List (AV×AV)×Option (AV×AV)}:U.iter b=some l↔U.live b=some (.iter l.1 l.2):=by unfold St.iter; split<;>simp_all [Prod.ext_iff]
def St.set (U:St) (b:Nat) (x:Live):St:={ U with live:=λ y=>if y=b then some x else U.live y }
def St.del (U:St) (b:Nat):St:={ U with live:=λ y=>if y=b then none else U.live y }
def St.new (U:St) (b:Nat) (x:Live):St:={ live:=λ y=>if y=b then some x else U.live y,nb:=U.nb.map (·+1) }
def St.cV (U:St) (b:Nat):Prop:=U.live b=none/\∀ n,U.nb=some n->b=n
structure aY (g:Gh) (U:St) (w:World):Prop where
 below:Below g.base g.w0 w
 le:g.base<=w.heap.size
 bT:∀ aE o u,g.bT aE o=some u->w.cell? ⟨aE,o,none⟩=some u/\u.oneCell'=true
 bL:∀ r es c,g.bL r=some (es,c)->w.heap[r]?=some (.map es c)/\iZ es c
 live:∀ b x,U.live b=some x->∃ p,g.place b=some p/\g.base<=p.aE/\jE g w p x
 apart:∀ b b' x x' p p',U.live b=some x->U.live b'=some x'->g.place b=some p->g.place b'=some p'->p.aE=p'.aE->b=b'
 res:∀ r,g.res r=true->g.base<=r/\w.heap[r]?=some (.deferred (some []))
 fin:∃ N,(∀ n,U.nb=some n->N=n)/\∀ b,N<=b->g.place b=none
end Go.Rip
namespace Go.Rip
open Go.RowKit
structure St.Le (U ad:St):Prop where
 live:∀ b x,U.live b=some x->ad.live b=some x
 nb:∀ n,U.nb=some n->ad.nb=some n
theorem St.Le.refl (U:St):St.Le U U:=⟨λ _ _ h=>h,λ _ h=>h⟩
theorem St.Le.trans {a b c:St} (h:St.Le a b) (k:St.Le b c):St.Le a c:=⟨λ _ _ x=>k.live _ _ (h.live _ _ x),λ _ x=>k.nb _ (h.nb _ x)⟩
theorem St.qT (U:St) (b:Nat):St.Le (U.del b) U:=⟨λ x y hx=>by simp only[St.del]at hx; split at hx<;>simp_all,λ _ h=>h⟩
theorem aY.weaken {g:Gh} {U ad:St} {w:World} (h:aY g ad w) (hl:St.Le U ad):aY g U w where
 below:=h.below
 le:=h.le
 bT:=h.bT
 bL:=h.bL
 live:=λ b l hb=>h.live b l (hl.live _ _ hb)
 apart:=λ b b' l l' x x' h1 h2=>h.apart b b' l l' x x' (hl.live _ _ h1) (hl.live _ _ h2)
 res:=h.res
 fin:=let ⟨N,h1,h2⟩:=h.fin; ⟨N,λ n hn=>h1 n (hl.nb n hn),h2⟩
theorem C7 {w w':World} {k:Nat} (h:w'.heap[k]?=w.heap[k]?) (o:Nat):w'.cell? ⟨k,o,none⟩=w.cell? ⟨k,o,none⟩:=by simp[World.cell?,h]
theorem aY.Lk {g:Gh} {U:St} {w:World} (h:aY g U w) {aE o:Nat} {u:Value} (hi:g.bT aE o=some u):aE<w.heap.size :=
 World.block_lt_of_cell? w ⟨aE,o,none⟩ (h.bT _ _ _ hi).1
theorem aY.HG {g:Gh} {U:St} {w:World} (h:aY g U w) {r:Nat} {x:Array MapEntry×Nat} (hi:g.bL r=some x):r<w.heap.size :=
 (jl.1 (h.bL r x.1 x.2 hi).1).1
theorem aY.xO {g:Gh} {U:St} {w:World} (h:aY g U w) {q:Nat} (hq:w.heap.size<=q) (o:Nat):g.bT q o=none:=by
 cases e:g.bT q o with
 | none=>rfl
 | some u=>have:=h.Lk e; omega
theorem aY.uA {g:Gh} {U:St} {w:World} (h:aY g U w) {q:Nat} (hq:w.heap.size<=q):g.bL q=none:=by
 cases e:g.bL q with
 | none=>rfl
 | some u=>have:=h.HG e; omega
theorem ug.dI {g g':Gh} (h:Gh.qP g g') {ks vs:List AV} {es:Array MapEntry} (hm:ug g ks vs es):ug g' ks vs es :=
 let ⟨l,h1,h2,h3,h4⟩:=hm; ⟨l,h1,h2,h3.dI h,h4.dI h⟩
theorem zG.dI {g g':Gh} (h:Gh.qP g g') {es:Array MapEntry} {seen:Array Nat} {rest:List (AV×AV)} {cur:Option (AV×AV)} (hm:zG g es seen rest cur):zG g' es seen rest cur:=by
 obtain⟨⟨l,h1,h2,h3⟩,h4⟩:=hm;refine⟨⟨l,h1,h2.dI h,h3.dI h⟩,?_⟩;cases cur with
 | none=>trivial
 | some kv=>obtain⟨e,k1,k2,k3,k4⟩:=h4; exact⟨e,k1,k2,k3.dI h,k4.dI h⟩
theorem jE.frame {g g':Gh} {w w':World} {p:Place} {x:Live} (h:jE g w p x) (hl:Gh.qP g g') (hb:w'.heap[p.aE]?=w.heap[p.aE]?) (hi:∀ o,g'.bT p.aE o=g.bT p.aE o) (hm:g'.bL p.aE=g.bL p.aE):jE g' w' p x:=by
 cases x with
 | box l=>obtain⟨cur,vs,rest,h1,h2,h3,h4,h5,h6⟩:=h; exact⟨cur,vs,rest,hb.trans h1,h2,h3,h4.dI hl,h5,λ o=>(hi o).trans (h6 o)⟩
 | tok t=>obtain⟨cur,h1,h2,h3,h4,h5⟩:=h; exact⟨cur,hb.trans h1,h2,h3,h4,λ o ho=>(hi o).trans (h5 o ho)⟩
 | mp ks vs=>obtain⟨es,clock,h1,h2,h3,h4⟩:=h; exact⟨es,clock,hb.trans h1,h2,h3.dI hl,hm.trans h4⟩
 | loop L=>obtain⟨fn,tmps,defers,h1,h2,h3⟩:=h; exact⟨fn,tmps,defers,hb.trans h1,h2,λ t=>(h3 t).dI hl⟩
 | iter rest cur=>obtain⟨m,es,clock,seen,h1,h2,h3⟩:=h; exact⟨m,es,clock,seen,hb.trans h1,hl.bL _ _ h2,h3.dI hl⟩
 | yN t l=>obtain⟨e1,e2,cur,vs,rest,h1,h2,h3,h4,h5,h6⟩:=h; exact⟨e1,e2,cur,vs,rest,hb.trans h1,h2,h3,h4.dI hl,h5,λ o=>(hi o).trans (h6 o)⟩
theorem jE.lt {g:Gh} {w:World} {p:Place} {x:Live} (h:jE g w p x):p.aE<w.heap.size:=by
 have:∃ o,w.heap[p.aE]?=some o:=by
  cases x with
  | box l=>obtain⟨cur,vs,rest,h1,_⟩:=h; exact⟨_,h1⟩
  | tok t=>obtain⟨cur,h1,_⟩:=h; exact⟨_,h1⟩
  | mp ks vs=>obtain⟨es,clock,h1,_⟩:=h; exact⟨_,h1⟩
  | loop L=>obtain⟨fn,tmps,defers,h1,_⟩:=h; exact⟨_,h1⟩
  | iter rest cur=>obtain⟨m,es,clock,seen,h1,_⟩:=h; exact⟨_,h1⟩
  | yN t l=>obtain⟨_,_,cur,vs,rest,h1,_⟩:=h; exact⟨_,h1⟩
 exact (jl.1 this.choose_spec).1
theorem jE.HR {g:Gh} {w:World} {p:Place} {x:Live} (h:jE g w p x) {r:Nat} {ds:Option (List Deferred)} (hr:w.heap[r]?=some (.deferred ds)):p.aE≠r:=by
 intro e;subst e;cases x with
 | box l=>obtain⟨cur,vs,rest,h1,_⟩:=h; rw[hr]at h1; cases h1
 | tok t=>obtain⟨cur,h1,_⟩:=h; rw[hr]at h1; cases h1
 | mp ks vs=>obtain⟨es,clock,h1,_⟩:=h; rw[hr]at h1; cases h1
 | loop L=>obtain⟨fn,tmps,defers,h1,_⟩:=h; rw[hr]at h1; cases h1
 | iter rest cur=>obtain⟨m,es,clock,seen,h1,_⟩:=h; rw[hr]at h1; cases h1
 | yN t l=>obtain⟨_,_,cur,vs,rest,h1,_⟩:=h; rw[hr]at h1; cases h1
theorem aY.change {g g':Gh} {U:St} {w w':World} (h:aY g U w) (B:Nat) (hB:g.base<=B) (hle:Gh.Le g g') (pV:g'.place=g.place) (hres:g'.res=g.res)
 (hw:w'.os=w.os/\w'.tape=w.tape/\w'.output=w.output/\w.heap.size<=w'.heap.size) (hk:∀ k,k≠B->k<w.heap.size->w'.heap[k]?=w.heap[k]?)
 (lJ:∀ q o,q≠B->g'.bT q o=g.bT q o) (Rf:∀ q,q≠B->g'.bL q=g.bL q)
 (hi:∀ o u,g'.bT B o=some u->w'.cell? ⟨B,o,none⟩=some u/\u.oneCell'=true) (hm:∀ es c,g'.bL B=some (es,c)->w'.heap[B]?=some (.map es c)/\iZ es c)
 (fL:∀ b x p,U.live b=some x->g.place b=some p->p.aE≠B) (YT:g.res B=false):aY g' U w':=by
 have aL:∀ k o,w.heap[k]?=some o->k≠B->w'.heap[k]?=some o:=λ k o ZV hn=>by rw[hk k hn (jl.1 ZV).1]; exact ZV
 exact {
  below:=by
   rw[hle.base,hle.w0];exact h.below.trans ⟨hw.1,hw.2.1,hw.2.2.1,hw.2.2.2,λ k ZU=>hk k (by omega) (by have:=h.le; omega)⟩
  le:=by rw[hle.base]; exact Nat.le_trans h.le hw.2.2.2
  bT:=λ q o u hu=>by
   by_cases hq:q=B
   . subst hq; exact hi o u hu
   . rw[lJ q o hq]at hu;rw[C7 (hk q hq (h.Lk hu))]; exact h.bT _ _ _ hu
  bL:=λ r es c hr=>by
   by_cases hq:r=B
   . subst hq; exact hm es c hr
   . rw[Rf r hq]at hr;rw[hk r hq (h.HG hr)]; exact h.bL _ _ _ hr
  live:=λ b x hb=>by
   obtain⟨p,h1,h2,h3⟩:=h.live b x hb;have Hx:=fL b x p hb h1;refine⟨p,by rw[pV]; exact h1,by rw[hle.base]; exact h2,h3.frame hle.r (hk _ Hx h3.lt) (λ o=>lJ _ _ Hx) (Rf _ Hx)⟩
  apart:=λ b b' x x' p p' h1 h2 h3 h4 h5=>by rw[pV]at h3 h4; exact h.apart b b' x x' p p' h1 h2 h3 h4 h5
  res:=λ r hr=>by
   rw[hres]at hr;obtain⟨h1,h2⟩:=h.res r hr;rw[hle.base];exact⟨h1,aL _ _ h2 (λ e=>by subst e; rw[YT]at hr; cases hr)⟩
  fin:=by rw[pV]; exact h.fin }
theorem aY.named {g:Gh} {U:St} {w:World} (h:aY g U w) {b:Nat} {p:Place} {x:Live} (hb:g.place b=some p) (hB:g.base<=p.aE) (hx:jE g w p x)
 (fL:∀ b' x' p',b'≠b->U.live b'=some x'->g.place b'=some p'->p'.aE≠p.aE):aY g (U.set b x) w where
 below:=h.below
 le:=h.le
 bT:=h.bT
 bL:=h.bL
 live:=λ b' x' dR=>by
  simp only[St.set]at dR;split at dR
  . rename_i e; subst e; cases dR; exact⟨p,hb,hB,hx⟩
  . exact h.live b' x' dR
 apart:=λ b1 b2 x1 x2 p1 p2 h1 h2 h3 h4 h5=>by
  simp only[St.set]at h1 h2
  by_cases e1:b1=b<;>by_cases e2:b2=b
  . rw[e1,e2]
  . rw[if_neg e2]at h2;subst e1; rw[hb]at h3; cases h3;exact absurd h5.symm (fL _ _ _ e2 h2 h4)
  . rw[if_neg e1]at h1;subst e2; rw[hb]at h4; cases h4;exact absurd h5 (fL _ _ _ e1 h1 h3)
  . rw[if_neg e1]at h1; rw[if_neg e2]at h2;exact h.apart _ _ _ _ _ _ h1 h2 h3 h4 h5
 res:=h.res
 fin:=h.fin
def Gh.lZ (g:Gh) (b:Nat) (p:Place):Gh:={ g with place:=λ y=>if y=b then some p else g.place y }
theorem Gh.ij (g:Gh) (b:Nat) (p:Place):(g.lZ b p).place b=some p:=by simp[Gh.lZ]
theorem Gh.lA (g:Gh) {b y:Nat} (p:Place) (h:y≠b):(g.lZ b p).place y=g.place y:=by simp[Gh.lZ,h]
theorem Gh.yF {g:Gh} {b:Nat} (p:Place) (h:g.place b=none):Gh.Le g (g.lZ b p) :=
 ⟨rfl,rfl,λ y x hy=>by rw[Gh.lA _ _ (λ e=>by subst e; rw[h]at hy; cases hy)]; exact hy,λ _ _ _ h=>h,λ _ _ h=>h,λ _ h=>h,λ _ _ _=>rfl,λ _ _=>rfl⟩
theorem aY.newName {g:Gh} {U:St} {w:World} (h:aY g U w) (p:Place) (hB:g.base<=p.aE) (fL:∀ b' x' p',U.live b'=some x'->g.place b'=some p'->p'.aE≠p.aE) :
 ∃ b,U.cV b/\Gh.Le g (g.lZ b p)/\∀ x,jE (g.lZ b p) w p x->aY (g.lZ b p) (U.new b x) w:=by
 obtain⟨N,ZC,ZD⟩:=h.fin;have Ck:g.place N=none:=ZD N (cN _);have ZY:U.live N=none:=by
  cases e:U.live N with
  | none=>rfl
  | some x=>obtain⟨p,h1,_⟩:=h.live N x e; rw[Ck]at h1; cases h1
 refine⟨N,⟨ZY,ZC⟩,Gh.yF p Ck,λ x hx=>?_⟩;have hle:=Gh.yF (g:=g) p Ck;have cv:∀ b x,U.live b=some x->b≠N:=λ b x hb e=>by subst e; rw[ZY]at hb; cases hb
 exact {
  below:=h.below
  le:=h.le
  bT:=h.bT
  bL:=h.bL
  live:=λ b' x' dR=>by
   simp only[St.new]at dR;split at dR
   . rename_i e; subst e; cases dR; exact⟨p,Gh.ij _ _ _,hB,hx⟩
   . obtain⟨p',h1,h2,h3⟩:=h.live b' x' dR;exact⟨p',hle.place _ _ h1,h2,h3.frame hle.r rfl (λ _=>rfl) rfl⟩
  apart:=λ b1 b2 x1 x2 p1 p2 h1 h2 h3 h4 h5=>by
   simp only[St.new]at h1 h2
   by_cases e1:b1=N<;>by_cases e2:b2=N
   . rw[e1,e2]
   . rw[if_neg e2]at h2; rw[Gh.lA _ _ e2]at h4;subst e1; rw[Gh.ij]at h3; cases h3;exact absurd h5.symm (fL _ _ _ h2 h4)
   . rw[if_neg e1]at h1; rw[Gh.lA _ _ e1]at h3;subst e2; rw[Gh.ij]at h4; cases h4;exact absurd h5 (fL _ _ _ h1 h3)
   . rw[if_neg e1]at h1; rw[if_neg e2]at h2;rw[Gh.lA _ _ e1]at h3; rw[Gh.lA _ _ e2]at h4;exact h.apart _ _ _ _ _ _ h1 h2 h3 h4 h5
  res:=h.res
  fin:=⟨N+1,λ n hn=>by
   simp only[St.new,nr]at hn;obtain⟨m,hm,rfl⟩:=hn;rw[ZC m hm],λ b hb=>by rw[Gh.lA _ _ (by omega)]; exact ZD b (by omega)⟩ }
theorem aY.grow {g:Gh} {U:St} {w w':World} (h:aY g U w) (hg:w.grownBy w' none):aY g U w':=by
 have hb:∀ k,k<w.heap.size->w'.heap[k]?=w.heap[k]?:=λ k hk=>hg.block k hk (by simp);refine h.change w.heap.size h.le (Gh.Le.refl g) rfl rfl ⟨hg.os,hg.tape,hg.output,hg.size⟩ (λ k _ hk=>hb k hk) (λ _ _ _=>rfl) (λ _ _=>rfl) (λ o u hu=>?_) (λ es c hr=>?_) (λ b x p h1 h2=>?_) ?_
 . rw[h.xO (cN _)]at hu; cases hu
 . rw[h.uA (cN _)]at hr; cases hr
 . obtain⟨p',k1,_,k3⟩:=h.live b x h1;rw[h2]at k1; cases k1;exact Nat.ne_of_lt k3.lt
 . cases e:g.res w.heap.size with
   | false=>rfl
   | true=>have:=(jl.1 (h.res _ e).2).1; omega
theorem jd (w:World):w.grownBy w.drew none:=⟨rfl,rfl,rfl,cN _,λ _ _ _=>rfl⟩
theorem aY.BO {g:Gh} {U:St} {w:World} (h:aY g U w) {q:Nat} (hq:w.heap.size<=q):g.res q=false:=by
 cases e:g.res q with
 | false=>rfl
 | true=>have:=(jl.1 (h.res _ e).2).1; omega
theorem aY.uQ {g:Gh} {U:St} {w:World} (h:aY g U w) {b:Nat} {x:Live} {p:Place} (hb:U.live b=some x) (hp:g.place b=some p):p.aE<w.heap.size:=by
 obtain⟨p',k1,_,k3⟩:=h.live b x hb;rw[hp]at k1; cases k1;exact k3.lt
theorem aY.rJ {g:Gh} {U:St} {w:World} (h:aY g U w) {b:Nat} {x:Live} {p:Place} (hb:U.live b=some x) (hp:g.place b=some p):g.res p.aE=false:=by
 cases e:g.res p.aE with
 | false=>rfl
 | true =>
   obtain⟨p',k1,_,k3⟩:=h.live b x hb;rw[hp]at k1; cases k1;exact absurd rfl (k3.HR (h.res _ e).2)
theorem aY.rv {g:Gh} {U:St} {w:World} (h:aY g U w) (o:Obj) (e:TypeId) (size:Nat) (x:Live)
 (hx:∀ g',Gh.Le g g'->(∀ o,g'.bT w.heap.size o=none)->g'.bL w.heap.size=none->jE g' (w.alloc o) ⟨w.heap.size,e,size⟩ x) :
 ∃ b g',U.cV b/\Gh.Le g g'/\g'.place b=some ⟨w.heap.size,e,size⟩/\aY g' (U.new b x) (w.alloc o):=by
 have hs:=h.grow (w.grownBy_alloc o none);obtain⟨b,h1,h2,h3⟩:=hs.newName ⟨w.heap.size,e,size⟩ h.le (λ b' x' p' k1 k2=>Nat.ne_of_lt (h.uQ k1 k2));exact⟨b,_,h1,h2,Gh.ij _ _ _,h3 x (hx _ h2 (λ o=>h.xO (cN _) o) (h.uA (cN _)))⟩
end Go.Rip
namespace Go.Rip
open Go.RowKit
def St.bM (U:St) (b:Nat) (l:List AV):St:=U.set b (.box l)
def St.Za (U:St) (b:Nat) (kv:List AV×List AV):St:=U.set b (.mp kv.1 kv.2)
theorem aY.box {g:Gh} {U:St} {w:World} (h:aY g U w) (b:Nat) (l:List AV) (hb:U.box b=some l):∃ x cur vs rest,g.box b=some x/\g.base<=x.aE/\w.heap[x.aE]?=some (.cells cur x.e (0,0))/\cur.size=x.size/\cur.toList=vs++rest/\aC g l vs /\
 (∀ u∈cur.toList,u.oneCell'=true)/\(∀ o,g.bT x.aE o=none):=by
 obtain⟨y,hy,Wp⟩:=St.qR hb;obtain⟨p,h1,h2,hp⟩:=h.live b _ hy;obtain⟨cur,vs,rest,h3,h4,h5,h6,h7,h8⟩:=Wp _ _ _ hp;exact⟨p,cur,vs,rest,h1,h2,h3,h4,h5,h6,h7,h8⟩
theorem aY.tok {g:Gh} {U:St} {w:World} (h:aY g U w) (τ:Nat) (t:Tok) (ht:U.tok τ=some t):∃ aE c cur,g.tok τ=some (aE,c)/\g.base<=aE/\w.heap[aE]?=some (.cells cur t.e (0,0))/\cur.size=c*t.size/\t.n<=c/\c<=maxLen /\
 (∀ o,t.n*t.size<=o->g.bT aE o=none):=by
 obtain⟨p,h1,h2,cur,h3,h4,h5,h6,h7⟩:=h.live τ _ (St.iY.1 ht);exact⟨p.aE,p.size,cur,Gh.iY.2 ⟨p,h1,rfl,rfl⟩,h2,h3,h4,h5,h6,h7⟩
theorem aY.mp {g:Gh} {U:St} {w:World} (h:aY g U w) (m:Nat) (kv:List AV×List AV) (hm:U.mp m=some kv):∃ r es clock,g.mp m=some r/\g.base<=r/\w.heap[r]?=some (.map es clock)/\iZ es clock/\ug g kv.1 kv.2 es/\g.bL r=none:=by
 obtain⟨p,h1,h2,es,clock,h3,h4,h5,h6⟩:=h.live m _ (St.nG.1 hm);exact⟨p.aE,es,clock,Gh.nG.2 ⟨p,h1,rfl⟩,h2,h3,h4,h5,h6⟩
theorem aY.rewrite {g:Gh} {U:St} {w w':World} (h:aY g U w) {b:Nat} {x x':Live} {p:Place} (hb:U.live b=some x) (hp:g.place b=some p)
 (hw:w'.os=w.os/\w'.tape=w.tape/\w'.output=w.output/\w.heap.size<=w'.heap.size) (hk:∀ k,k≠p.aE->k<w.heap.size->w'.heap[k]?=w.heap[k]?)
 (hi:∀ o,g.bT p.aE o=none) (hm:g.bL p.aE=none) (hx:jE g w' p x'):aY g (U.set b x') w':=by
 obtain⟨p',k1,k2,k3⟩:=h.live b x hb;rw[hp]at k1; cases k1;have fL:∀ b' x' p',b'≠b->U.live b'=some x'->g.place b'=some p'->p'.aE≠p.aE:=λ b' x' p' cv h1 h2 e=>cv (h.apart _ _ _ _ _ _ h1 hb h2 hp e);have hd:∀ b' x' p',(U.del b).live b'=some x'->g.place b'=some p'->p'.aE≠p.aE:=λ b' x' p' h1 h2=>by
  simp only[St.del]at h1;split at h1
  . cases h1
  . rename_i e; exact fL _ _ _ e h1 h2
 have h1:=(h.weaken (St.qT U b)).change p.aE k2 (Gh.Le.refl g) rfl rfl hw hk (λ _ _ _=>rfl) (λ _ _=>rfl) (λ o u hu=>by rw[hi]at hu; cases hu) (λ es c hr=>by rw[hm]at hr; cases hr) hd (h.rJ hb hp);have h2:=h1.named hp k2 hx (λ b' x' p' _ q1 q2=>hd b' x' p' q1 q2);have e:(U.del b).set b x'=U.set b x':=by
  simp only[St.del,St.set,St.mk.injEq,and_true];funext y;split<;>rfl
 rw[<- e]; exact h2
theorem aY.cB {g:Gh} {U:St} {w:World} (h:aY g U w) (e:TypeId) (cur:Array Value) (vs rest:List Value) (l:List AV) (hc:cur.toList=vs++rest) (hl:aC g l vs) (h1:∀ u∈cur.toList,u.oneCell'=true) :
 ∃ b g',U.cV b/\Gh.Le g g'/\g'.box b=some ⟨w.heap.size,e,cur.size⟩/\aY g' (U.new b (.box l)) (w.alloc (.cells cur e)) :=
 h.rv (.cells cur e) e cur.size (.box l) λ g' hle hi hm=>⟨cur,vs,rest,heap_alloc_new w _,rfl,hc,hl.mono hle,h1,hi⟩
theorem aY.LP {g:Gh} {U:St} {w:World} (h:aY g U w) (e:TypeId) (cur:Array Value) (vs rest:List Value) (hc:cur.toList=vs++rest) (h1:∀ u∈cur.toList,u.oneCell'=true) :
 ∃ g',Gh.Le g g'/\jD g' w.heap.size 0 vs/\(∀ o,vs.length<=o->g'.bT w.heap.size o=none)/\g'.place=g.place/\aY g' U (w.alloc (.cells cur e)):=by
 let g':Gh:={ g with bT:=λ aE o=>if aE=w.heap.size then vs[o]? else g.bT aE o }
 have nQ:∀ o,g'.bT w.heap.size o=vs[o]?:=λ o=>by show (if w.heap.size=w.heap.size then _ else _)=_; rw[if_pos rfl]
 have hold:∀ aE o,aE≠w.heap.size->g'.bT aE o=g.bT aE o:=λ aE o hx=>by show (if aE=w.heap.size then _ else _)=_; rw[if_neg hx]
 have hle:Gh.Le g g':=⟨rfl,rfl,λ _ _ h=>h,λ aE o u hu=>by
  rw[hold _ _ (λ e=>by subst e; rw[h.xO (cN _)]at hu; cases hu)]; exact hu,λ _ _ h=>h,λ _ h=>h,λ q o hq=>hold _ _ (by have:=h.le; omega),λ _ _=>rfl⟩
 have hg:=w.grownBy_alloc (.cells cur e) none;refine⟨g',hle,λ i u hu=>by rw[cq,nQ]; exact hu,λ o ho=>by rw[nQ]; simpa using ho,rfl,?_⟩;refine h.change w.heap.size h.le hle rfl rfl ⟨hg.os,hg.tape,hg.output,hg.size⟩ (λ k _ hk=>hg.block k hk (by simp)) (λ q o hq=>hold q o hq) (λ _ _=>rfl) (λ o u hu=>?_) (λ es c hr=>?_) (λ b x p k1 k2=>Nat.ne_of_lt (h.uQ k1 k2)) (h.BO (cN _))
 . rw[nQ]at hu;have ZI:cur[o]?=some u:=by
    rw[<- jm,hc,rF (by
     rcases gI o vs.length with h|h
     . exact h
     . simp[rE h]at hu)]
    exact hu
   exact⟨by rw[cell_of_row _ _ _ cur e (0,0) (heap_alloc_new w _)]; exact ZI,h1 u (gA (by rw[jm]; exact ZI))⟩
 . have:g.bL w.heap.size=some (es,c):=hr;rw[h.uA (cN _)]at this; cases this
theorem aY.lk {g:Gh} {U:St} {w:World} (h:aY g U w) {r:Nat} {c:Array Value} {e:TypeId} {f:Nat×Nat} (hh:w.heap[r]?=some (.cells c e f)):g.bL r=none:=by
 cases e:g.bL r with
 | none=>rfl
 | some x=>have:=(h.bL r x.1 x.2 e).1; rw[hh]at this; cases this
theorem aY.setRow {g:Gh} {U:St} {w:World} (h:aY g U w) {b:Nat} {l l':List AV} {x:Place} (hb:U.box b=some l) (hx:g.box b=some x)
 (cur:Array Value) (vs rest:List Value) (hsz:cur.size=x.size) (hc:cur.toList=vs++rest) (hl:aC g l' vs) (h1:∀ u∈cur.toList,u.oneCell'=true) :
 aY g (U.bM b l') (w.setRow x.aE cur):=by
 obtain⟨x',U7,vs0,Y7,k1,k2,k3,k4,k5,k6,k7,k8⟩:=h.box b l hb;rw[hx]at k1; cases k1;obtain⟨y,hy,_⟩:=St.qR hb;exact h.rewrite hy hx ⟨rfl,rfl,rfl,by simp⟩ (λ k hk _=>setRow_other _ _ _ _ hk) k8 (h.lk k3) ⟨cur,vs,rest,setRow_heap w x.aE U7 cur x.e (0,0) k3,hsz,hc,hl,h1,k8⟩
theorem aY.Y6 {g:Gh} {U:St} {w:World} (h:aY g U w) {b:Nat} {l:List AV} (hb:U.box b=some l):aY g (U.bM b l) w:=by
 obtain⟨y,hy,Wp⟩:=St.qR hb;obtain⟨p,h1,h2,hp⟩:=h.live b _ hy;obtain⟨cur,vs,rest,h3,h4,h5,h6,h7,h8⟩:=Wp _ _ _ hp;exact h.rewrite hy h1 ⟨rfl,rfl,rfl,cN _⟩ (λ _ _ _=>rfl) h8 (h.lk h3) ⟨cur,vs,rest,h3,h4,h5,h6,h7,h8⟩
theorem Bz {cur cur':Array Value} {a:Nat} {news:List Value} (ha:a<=cur.size) (Hn:cur'.toList=cur.toList.take a++news++cur.toList.drop (a+news.length)) (o:Nat) :
 cur'[o]?=if o<a then cur[o]? else if o<a+news.length then news[o-a]? else cur[o]?:=by
 rw[<- jm,Hn,nu];have hl:(cur.toList.take a).length=a:=by simp; omega
 by_cases h1:o<a
 . rw[if_pos h1,rF (by omega),List.getElem?_take,if_pos h1,jm]
 . rw[if_neg h1,List.getElem?_append_right (by omega),hl]
   by_cases h2:o<a+news.length
   . rw[if_pos h2,rF (by omega)]
   . rw[if_neg h2,List.getElem?_append_right (by omega),List.getElem?_drop,jm];congr 1; omega
theorem aY.Xo {g:Gh} {U:St} {w:World} (h:aY g U w) {τ:Nat} {t:Tok} {aE c:Nat} (ht:U.tok τ=some t) (hg:g.tok τ=some (aE,c))
 (cur cur':Array Value) (news:List Value) (m:Nat) (I0:w.heap[aE]?=some (.cells cur t.e (0,0))) (hlen:news.length=m*t.size) (ng:t.n+m<=c)
 (Hn:cur'.toList=cur.toList.take (t.n*t.size)++news++cur.toList.drop (t.n*t.size+news.length)) (h1:∀ u∈news,u.oneCell'=true) :
 ∃ sF g',(U.del τ).cV sF/\Gh.Le g g'/\g'.tok sF=some (aE,c)/\jD g' aE (t.n*t.size) news/\aY g' ((U.del τ).new sF (.tok ⟨t.n+m,t.e,t.size⟩)) (w.setRow aE cur'):=by
 obtain⟨p,hp,Hx,Z3⟩:=Gh.iY.1 hg;dsimp only at Hx Z3;subst Hx Z3;obtain⟨p',k1,k2,U7,k3,k4,k5,k6,k7⟩:=h.live τ _ (St.iY.1 ht);rw[hp]at k1; cases k1;rw[I0]at k3; cases k3;have tu:(t.n+m)*t.size<=cur.size:=by rw[k4]; exact Nat.mul_le_mul_right _ ng
 have Cj:(t.n+m)*t.size=t.n*t.size+news.length:=by rw[hlen,Nat.add_mul]
 have hsz:cur'.size=cur.size:=by
  have:=congrArg List.length Hn;simp only[qn,eG,List.length_take,List.length_drop]at this;omega
 let g':Gh:={ g with bT:=λ q o=>if q=p.aE/\t.n*t.size<=o/\o<t.n*t.size+news.length then news[o-t.n*t.size]? else g.bT q o }
 have lJ:∀ q o,q≠p.aE->g'.bT q o=g.bT q o:=λ q o hq=>by
  show (if _ then _ else _)=_
  rw[if_neg (λ e=>hq e.1)]
 have hle:Gh.Le g g':=⟨rfl,rfl,λ _ _ h=>h,λ q o u hu=>by
  show (if _ then _ else _)=_
  rw[if_neg (λ e=>by obtain⟨rfl,e2,_⟩:=e; rw[k7 o e2]at hu; cases hu)]; exact hu,λ _ _ h=>h,λ _ h=>h,λ q o hq=>lJ _ _ (by omega),λ _ _=>rfl⟩
 have EI:=setRow_heap w p.aE cur cur' t.e (0,0) I0;have qi:=λ o=>Bz (cur:=cur) (cur':=cur') (a:=t.n*t.size) (news:=news) (by omega) Hn o;have fL:∀ b' x' p',(U.del τ).live b'=some x'->g.place b'=some p'->p'.aE≠p.aE:=λ b' x' p' h1 h2 e=>by
  simp only[St.del]at h1;split at h1
  . cases h1
  . rename_i ne; exact ne (h.apart _ _ _ _ _ _ h1 (St.iY.1 ht) h2 hp e)
 have hs:=(h.weaken (St.qT U τ)).change (w':=w.setRow p.aE cur') p.aE k2 hle rfl rfl ⟨rfl,rfl,rfl,by simp⟩ (λ k hk _=>setRow_other _ _ _ _ hk) lJ (λ _ _=>rfl) (λ o u hu=>by
  rw[cell_of_row _ _ _ cur' t.e (0,0) EI,qi];have mX:(if p.aE=p.aE/\t.n*t.size<=o/\o<t.n*t.size+news.length then news[o-t.n*t.size]? else g.bT p.aE o)=some u:=hu
  by_cases ho:o<t.n*t.size
  . rw[if_pos ho];rw[if_neg (by omega)]at mX;have:=h.bT _ _ _ mX;rw[cell_of_row _ _ _ cur t.e (0,0) I0]at this;exact this
  . rw[if_neg ho]
    by_cases Rr:o<t.n*t.size+news.length
    . rw[if_pos Rr];rw[if_pos ⟨rfl,by omega,Rr⟩]at mX;exact⟨mX,h1 u (gA mX)⟩
    . rw[if_neg (by omega)]at mX;rw[k7 o (by omega)]at mX; cases mX) (λ es c hr=>by
  have hr:g.bL p.aE=some (es,c):=hr;rw[h.lk I0]at hr; cases hr) fL (h.rJ (St.iY.1 ht) hp)
 obtain⟨sF,f1,f2,f3⟩:=hs.newName p k2 fL;refine⟨sF,_,f1,hle.trans f2,Gh.iY.2 ⟨p,Gh.ij _ _ _,rfl,rfl⟩,λ i u hu=>?_,f3 _ ⟨cur',EI,by rw[hsz]; exact k4,ng,k6,λ o ho=>?_⟩⟩
 . have hi:i<news.length:=by
    rcases gI i news.length with h|h
    . exact h
    . simp[rE h]at hu
   show (if _ then _ else _)=_
   rw[if_pos ⟨rfl,by omega,by omega⟩,Nat.add_sub_cancel_left]; exact hu
 . have ho:(t.n+m)*t.size<=o:=ho;show (if _ then _ else _)=_
   rw[if_neg (by omega)]; exact k7 o (by omega)
theorem aY.rename {g:Gh} {U:St} {w:World} (h:aY g U w) {b:Nat} {x:Live} {p:Place} (hb:U.live b=some x) (hp:g.place b=some p) :
 ∃ b' g',(U.del b).cV b'/\Gh.Le g g'/\g'.place b'=some p/\aY g' ((U.del b).new b' x) w:=by
 obtain⟨p',k1,k2,k3⟩:=h.live b x hb;rw[hp]at k1; cases k1;obtain⟨b',f1,f2,f3⟩:=(h.weaken (St.qT U b)).newName p k2 (λ b' x' p' h1 h2 e=>by
  simp only[St.del]at h1;split at h1
  . cases h1
  . rename_i ne; exact ne (h.apart _ _ _ _ _ _ h1 hb h2 hp e))
 exact⟨b',_,f1,f2,Gh.ij _ _ _,f3 x (k3.frame f2.r rfl (λ _=>rfl) rfl)⟩
theorem aY.lr {g:Gh} {U:St} {w:World} (h:aY g U w) (e:TypeId) (size n c:Nat) (cur:Array Value) (vs rest:List Value) (hc:cur.toList=vs++rest) (h1:∀ u∈cur.toList,u.oneCell'=true)
 (wy:vs.length=n*size) (tu:cur.size=c*size) (Ci:n<=c) (tt:c<=maxLen) :
 ∃ τ g',U.cV τ/\Gh.Le g g'/\g'.tok τ=some (w.heap.size,c)/\jD g' w.heap.size 0 vs/\aY g' (U.new τ (.tok ⟨n,e,size⟩)) (w.alloc (.cells cur e)):=by
 obtain⟨g1,Et,lJ,fL,pV,hs⟩:=h.LP e cur vs rest hc h1;obtain⟨τ,f1,f2,f3⟩:=hs.newName ⟨w.heap.size,e,c⟩ (by rw[Et.base]; exact h.le) (λ b' x' p' k1 k2=>by rw[pV]at k2; exact Nat.ne_of_lt (h.uQ k1 k2));exact⟨τ,_,f1,Et.trans f2,Gh.iY.2 ⟨_,Gh.ij _ _ _,rfl,rfl⟩,lJ,f3 _ ⟨cur,heap_alloc_new w _,tu,Ci,tt,λ o ho=>fL o (by rw[wy]; exact ho)⟩⟩
theorem aY.freeze {g:Gh} {U:St} {w:World} (h:aY g U w) {b:Nat} {l:List AV} {x:Place} (hb:U.box b=some l) (hx:g.box b=some x) :
 ∃ g' vs,Gh.Le g g'/\g'.place=g.place/\jD g' x.aE 0 vs/\aC g l vs/\aY g' (U.del b) w:=by
 obtain⟨x',cur,vs,rest,k1,k2,k3,k4,k5,k6,k7,k8⟩:=h.box b l hb;rw[hx]at k1; cases k1;let g':Gh:={ g with bT:=λ q o=>if q=x.aE then cur[o]? else g.bT q o }
 have nQ:∀ o,g'.bT x.aE o=cur[o]?:=λ o=>by show (if x.aE=x.aE then _ else _)=_; rw[if_pos rfl]
 have hold:∀ q o,q≠x.aE->g'.bT q o=g.bT q o:=λ q o hq=>by show (if q=x.aE then _ else _)=_; rw[if_neg hq]
 have hle:Gh.Le g g':=⟨rfl,rfl,λ _ _ h=>h,λ q o u hu=>by
  rw[hold _ _ (λ e=>by subst e; rw[k8]at hu; cases hu)]; exact hu,λ _ _ h=>h,λ _ h=>h,λ q o hq=>hold _ _ (by omega),λ _ _=>rfl⟩
 refine⟨g',vs,hle,rfl,λ i u hu=>by
  have hi:i<vs.length:=by
   rcases gI i vs.length with h|h
   . exact h
   . simp[rE h]at hu
  rw[cq,nQ,<- jm,k5,rF hi]; exact hu,k6,?_⟩
 obtain⟨y,hy,_⟩:=St.qR hb;refine (h.weaken (St.qT U b)).change x.aE k2 hle rfl rfl ⟨rfl,rfl,rfl,cN _⟩ (λ _ _ _=>rfl) hold (λ _ _=>rfl) (λ o u hu=>?_) (λ es c hr=>?_) (λ b' x' p' h1 h2 e=>?_) (h.rJ hy hx)
 . rw[nQ]at hu;rw[cell_of_row _ _ _ cur x.e (0,0) k3];exact⟨hu,k7 u (gA (by rw[jm]; exact hu))⟩
 . have hr:g.bL x.aE=some (es,c):=hr;rw[h.lk k3]at hr; cases hr
 . simp only[St.del]at h1;split at h1
   . cases h1
   . rename_i ne; exact ne (h.apart _ _ _ _ _ _ h1 hy h2 hx e)
theorem aY.Mp {g:Gh} {U:St} {w:World} (h:aY g U w) {m r:Nat} {kv kv':List AV×List AV} {es tj:Array MapEntry} {clock th:Nat} (hm:U.mp m=some kv) (hg:g.mp m=some r) (hh:w.heap[r]?=some (.map es clock))
 (h1:ug g kv'.1 kv'.2 tj) (h2:iZ tj th) :
 aY g (U.Za m kv') { w with heap:=w.heap.setIfInBounds r (Obj.map tj th) }:=by
 obtain⟨p,hp,rfl⟩:=Gh.nG.1 hg;obtain⟨p',k1,k2,es0,cl0,k3,k4,k5,k6⟩:=h.live m _ (St.nG.1 hm);rw[hp]at k1; cases k1;have aL:=(jl.1 hh).1;have cv:∀ k,k≠p.aE->(w.heap.setIfInBounds p.aE (Obj.map tj th))[k]?=w.heap[k]?:=λ k hk=>Array.getElem?_setIfInBounds_ne (Ne.symm hk);have nQ:(w.heap.setIfInBounds p.aE (Obj.map tj th))[p.aE]?=some (Obj.map tj th):=by simp[aL]
 exact h.rewrite (St.nG.1 hm) hp ⟨rfl,rfl,rfl,by simp⟩ (λ k hk _=>cv k hk) (λ o=>by
  cases e:g.bT p.aE o with
  | none=>rfl
  | some u=>have:=(h.bT _ _ _ e).1; simp[World.cell?,hh]at this) k6 ⟨tj,th,nQ,h2,h1,k6⟩
theorem aY.shut {g:Gh} {U:St} {w:World} (h:aY g U w) {r:Nat} (hr:g.res r=true):aY { g with res:=λ x=>if x=r then false else g.res x } U { w with heap:=w.heap.setIfInBounds r (Obj.deferred none) }:=by
 obtain⟨k2,hh⟩:=h.res r hr;have cv:∀ k,k≠r->(w.heap.setIfInBounds r (Obj.deferred none))[k]?=w.heap[k]?:=λ k hk=>Array.getElem?_setIfInBounds_ne (Ne.symm hk);have hl:Gh.qP g { g with res:=λ x=>if x=r then false else g.res x }:=⟨λ _ _ h=>h,λ _ _ _ h=>h,λ _ _ h=>h⟩
 exact {
  below:=h.below.trans ⟨rfl,rfl,rfl,by simp,λ k hk=>cv k (by have:=h.le; omega)⟩
  le:=by simpa using h.le
  bT:=λ aE o u hi=>by
   have iv:=h.bT _ _ _ hi;have:World.cell? { w with heap:=w.heap.setIfInBounds r (Obj.deferred none) } ⟨aE,o,none⟩=w.cell? ⟨aE,o,none⟩:=by
    simp only[World.cell?];rw[cv aE (λ e=>by subst e; simp[World.cell?,hh]at iv)]
   rw[this]; exact iv
  bL:=λ r' es c hr=>by
   obtain⟨h1,h2⟩:=h.bL r' es c hr;refine⟨?_,h2⟩;show (w.heap.setIfInBounds r (Obj.deferred none))[r']?=_;rw[cv r' (λ e=>by subst e; rw[hh]at h1; cases h1)]; exact h1
  live:=λ b x hb=>by
   obtain⟨p,h1,h2,h3⟩:=h.live b x hb;exact⟨p,h1,h2,h3.frame hl (cv _ (h3.HR hh)) (λ _=>rfl) rfl⟩
  apart:=h.apart
  res:=λ r' vD=>by
   have vD:(if r'=r then false else g.res r')=true:=vD
   split at vD
   . cases vD
   . rename_i e;obtain⟨q1,q2⟩:=h.res r' vD;exact⟨q1,by show (w.heap.setIfInBounds r (Obj.deferred none))[r']?=_; rw[cv r' e]; exact q2⟩
  fin:=h.fin }
theorem aY.Tf {g:Gh} {U:St} {w:World} (h:aY g U w):Gh.Le g { g with res:=λ x=>if x=w.heap.size then true else g.res x }/\aY { g with res:=λ x=>if x=w.heap.size then true else g.res x } U (w.alloc (.deferred (some []))):=by
 have hl:Gh.qP g { g with res:=λ x=>if x=w.heap.size then true else g.res x }:=⟨λ _ _ h=>h,λ _ _ _ h=>h,λ _ _ h=>h⟩
 refine⟨⟨rfl,rfl,λ _ _ h=>h,λ _ _ _ h=>h,λ _ _ h=>h,λ b hb=>by show (if _ then _ else _)=_; split<;>simp_all,λ _ _ _=>rfl,λ _ _=>rfl⟩,?_⟩
 have hs:=h.grow (w.grownBy_alloc (.deferred (some [])) none);exact {
  below:=hs.below
  le:=hs.le
  bT:=hs.bT
  bL:=hs.bL
  live:=λ b x hb=>by
   obtain⟨p,h1,h2,h3⟩:=hs.live b x hb;exact⟨p,h1,h2,h3.frame hl rfl (λ _=>rfl) rfl⟩
  apart:=hs.apart
  res:=λ r hr=>by
   have hr:(if r=w.heap.size then true else g.res r)=true:=hr
   split at hr
   . rename_i e; subst e; exact⟨h.le,heap_alloc_new w _⟩
   . exact hs.res r hr
  fin:=hs.fin }
end Go.Rip
namespace Go.Rip
open Go.RowKit
def jR:Value->Option AV
 | .bool b=>some (.bool b)
 | .int k n=>some (.int k n)
 | .string s=>some (.str s.data.toList)
 | .pointer none=>some .aU
 | .slice none 0 0=>some .ag
 | .map none=>some .ji
 | .nilFunc=>some .c6
 | .nilIface=>some .cS
 | _=>none
def OK:Option (List AV)->AV
 | some l=>.agg l
 | none=>.any
def B8:Value->AV
 | .agg cs=>OK (cs.toList.mapM jR)
 | .func fn f c=>if f.isEmpty&&c.isEmpty then .func fn [] [] else .any
 | .tuple vs=>if vs.isEmpty then .aQ [] else .any
 | v=>(jR v).getD .any
def Bd:TypeDesc->Bool
 | .struct _|.array _ _=>true
 | _=>false
def lR (P:Program) (t:TypeId):Option (Bool×Nat) :=
 match P.info? t,P.underlying t with
 | some i,some d=>some (Bd d,i.size)
 | _,_=>none
def nN (P:Program) (t:TypeId):Option (List AV):=((P.info? t).bind (·.zero)).bind λ z=>z.cells.toList.mapM jR
def dP (P:Program) (t:TypeId):Option (TypeId×Nat) :=
 match P.underlying t with
 | some (.slice e)=>match P.info? e with
   | some i=>match i.zero with
     | some z=>if z.cells.size=i.size/\0<i.size/\i.bytes<=32768/\z.cells.all (·.oneCell') then some (e,i.size) else none
     | none=>none
   | none=>none
 | _=>none
def wc (P:Program) (s:TypeId) (f:Nat):Option Nat :=
 match P.underlying s with
 | some (.struct fields)=>match fields[f]? with
   | some x=>if P.cellsOf x.type≠0 then some x.offset else none
   | none=>none
 | _=>none
def x5 (P:Program) (t:TypeId):Option (List (Nat×Nat)) :=
 match P.underlying t with
 | some (.struct fields)=>if fields.all (λ f=>(P.info? f.type).isSome) then some (fields.toList.map λ f=>(f.offset,P.cellsOf f.type)) else none
 | _=>none
def dG (P:Program) (f:FuncId):Bool :=
 match P.funcs[f]? with
 | some fn=>fn.body.isSome&&!(fn.name == "runtime.NumGoroutine")
 | none=>false
structure ck where
 P:Program
 wh:Nat->AV
 fixed:Nat->Option (Array Value):=λ _=>none
def fQ (C:ck) (g:Gh):Prop:=(∀ i,av g (C.wh i) (.pointer (some ⟨i,0,none⟩)))/\∀ i cs,C.fixed i=some cs->i<g.base/\∃ t fr,g.w0.heap[i]?=some (.cells cs t fr)
theorem fQ.mono {C:ck} {g g':Gh} (h:fQ C g) (hl:Gh.Le g g'):fQ C g':=⟨λ i=>(h.1 i).mono hl,λ i cs hi=>by rw[hl.base,hl.w0]; exact h.2 i cs hi⟩
structure Env where
 get:Nat->AV
def Env.put (ρ:Env) (d:Nat) (v:AV):Env:=⟨λ t=>if t=d then v else ρ.get t⟩
def Env.dw (ρ:Env):Option Nat->AV->Env
 | some d,v=>ρ.put d v
 | none,_=>ρ
def Env.ev (C:ck) (ρ:Env):Operand->AV
 | .tmp t=>ρ.get t
 | .const v=>B8 v
 | .global g=>C.wh g
 | .func f=>.func (.func f) [] []
def fj (g:Gh) (ρ:Env) (tmps:Array Value):Prop:=∀ t,av g (ρ.get t) (tmps.getD t undef)
theorem fj.mono {g g':Gh} (h:Gh.Le g g') {ρ:Env} {tmps:Array Value} (hr:fj g ρ tmps):fj g' ρ tmps:=λ t=>(hr t).mono h
theorem fj.put {g:Gh} {ρ:Env} {tmps:Array Value} (hr:fj g ρ tmps) {d:Nat} {x:AV} {v:Value} (hd:d<tmps.size) (hx:av g x v):fj g (ρ.put d x) (tmps.setIfInBounds d v):=λ t=>by
 simp only[Env.put]
 by_cases ht:t=d
 . subst ht;rw[if_pos rfl];simpa [Array.getD,hd] using hx
 . rw[if_neg ht];have:=hr t;simp only[Array.getD_eq_getD_getElem?]at this ⊢;rw[Array.getElem?_setIfInBounds_ne (Ne.symm ht)];exact this
theorem wR {g:Gh} {v:Value} {x:AV} (h:jR v=some x):av g x v/\v.oneCell'=true:=by
 unfold jR at h;split at h<;>first
  | (cases h; simp[av,Value.oneCell']; done)
  | cases h
theorem dB {g:Gh}:∀ {vs:List Value} {l:List AV},vs.mapM jR=some l->aC g l vs/\∀ u∈vs,u.oneCell'=true
 | [],l,h=>by
   simp at h; subst h; simp[aC]
 | v::vs,l,h=>by
   simp only[List.mapM_cons,bind,Option.bind_eq_some_iff,pure,fZ]at h;obtain⟨x,hx,l',sa,rfl⟩:=h;obtain⟨h1,h2⟩:=wR (g:=g) hx;obtain⟨h3,h4⟩:=dB (g:=g) sa;refine⟨by simp only[aC]; exact⟨v,vs,rfl,h1,h3⟩,λ u hu=>?_⟩;simp only[fe]at hu;rcases hu with rfl|hu
   . exact h2
   . exact h4 u hu
theorem JT {g:Gh} (v:Value):av g ((jR v).getD .any) v:=by
 cases h:jR v with
 | none=>simp only[Option.getD_none,av]
 | some x=>exact (wR h).1
theorem Bk {g:Gh} (v:Value):av g (B8 v) v:=by
 cases v with
 | agg cs =>
   simp only[B8];cases h:cs.toList.mapM jR with
   | none=>simp only[OK,av]
   | some l=>simp only[OK,av]; exact⟨cs.toList,by simp,(dB (g:=g) h).2,(dB h).1⟩
 | func fn f c =>
   simp only[B8];split
   . rename_i h;simp only[bV,Array.isEmpty_iff]at h;obtain⟨rfl,rfl⟩:=h;simp only[av]; exact⟨[],[],rfl,by simp[aC],by simp[aC]⟩
   . simp only[av]
 | tuple vs =>
   simp only[B8];split
   . rename_i h;simp only[Array.isEmpty_iff]at h;subst h;simp only[av]; exact⟨[],rfl,by simp[aC]⟩
   . simp only[av]
 | _=>simp only[B8]; exact JT _
theorem qV {C:ck} {g:Gh} (hG:fQ C g) {ρ:Env} {a:Act} (hr:fj g ρ a.tmps) (x:Operand):av g (ρ.ev C x) (a.eval x):=by
 cases x with
 | tmp t=>exact hr t
 | const v=>exact Bk v
 | global i=>exact hG.1 i
 | func f=>simp only[Env.ev,Act.eval,av]; exact⟨[],[],rfl,by simp[aC],by simp[aC]⟩
inductive NV where
 | box
 | tok (n:Nat) (l:List AV)
 | ms (n gy:Nat) (e:TypeId)
 | mp
 | it
def NV.at (b:Nat):NV->AV
 | .box=>.box b 0
 | .tok n l=>.vec n (.own b) l
 | .ms n gy e=>.ms b 0 n gy e
 | .mp=>.mp b
 | .it=>.it b
inductive ay where
 | val (v:AV)
 | kI (v:AV) (b:Nat) (x:Live)
 | new (k:NV) (del:Option Nat) (x:Live)
 | jF (b:Nat) (l:List (AV×Live))
 | enter (f:FuncId) (args:List AV)
 | yield (l:Nat) (args:List AV)
 | panic (v:AV)
 | cond (p:Prop) [d:Decidable p] (r:ay)
 | bad
abbrev ay.cB (l:List AV):ay:=.new .box none (.box l)
abbrev ay.lr (n:Nat) (l:List AV) (del:Option Nat) (t:Tok):ay:=.new (.tok n l) del (.tok t)
abbrev ay.mJ (n gy:Nat) (e:TypeId) (del:Option Nat) (l:List AV):ay:=.new (.ms n gy e) del (.box l)
abbrev ay.Dy:ay:=.new .mp none (.mp [] [])
def St.qh (U:St):Option Nat->St
 | some b=>U.del b
 | none=>U
def ay.Fits (C:ck) (g:Gh) (U:St):ay->Result Next->Prop
 | .val v,res=>∃ u w' g',(res=.ok (.value u) w'\/(res=.ok .skip w'/\u=undef))/\Gh.Le g g'/\aY g' U w'/\av g' v u
 | .kI v b x,res=>∃ u w' g',(res=.ok (.value u) w'\/(res=.ok .skip w'/\u=undef))/\Gh.Le g g'/\aY g' (U.set b x) w'/\av g' v u
 | .new k del x,res=>∃ u w' g' b,res=.ok (.value u) w'/\(U.qh del).cV b/\Gh.Le g g'/\aY g' ((U.qh del).new b x) w'/\av g' (k.at b) u
 | .jF b l,res=>∃ u w' g' v x,res=.ok (.value u) w'/\(v,x)∈l/\Gh.Le g g'/\aY g' (U.set b x) w'/\av g' v u
 | .enter f args,res=>∃ vs w',res=.ok (.enter f (List.toArray vs)) w'/\aY g U w'/\aC g args vs
 | .yield o args,res=>∃ vs x w w',g.place o=some x/\res=(Instr.yield x.aE (List.toArray vs)).run C.P w/\w'=w/\aY g U w/\aC g args vs
 | .panic v,res=>∃ u w',res=.halt (.panic u) w'/\aY g U w'/\av g v u
 | @ay.cond p _ r,res=>p->r.Fits C g U res
 | .bad,_=>True
theorem aV {C:ck} {g:Gh} {U:St} {w:World} {v:AV} {u:Value} (h:aY g U w) (hr:av g v u):ay.Fits C g U (.val v) (.ok (.value u) w) :=
 ⟨u,w,g,.inl rfl,Gh.Le.refl g,h,hr⟩
def tf (n:Int):Prop:=-9223372036854775808<=n/\n<=9223372036854775807
instance (n:Int):Decidable (tf n):=inferInstanceAs (Decidable (_/\_))
theorem vj {n:Int} (h:tf n):IntKind.i64.wrap n=n:=by
 obtain⟨h1,h2⟩:=h;have e:IntKind.i64.wrap n=if n%18446744073709551616>=9223372036854775808 then n%18446744073709551616-18446744073709551616 else n%18446744073709551616:=by
  simp[IntKind.wrap,IntKind.bits,IntKind.signed]
 rw[e];split<;>omega
def tH (P:Program) (t:TypeId):Bool:=match P.underlying t with|some .bool=>true|_=>false
def jf (P:Program) (t:TypeId):Bool:=match P.underlying t with|some (.interface _)=>true|_=>false
def kx (P:Program) (t:TypeId):Bool:=match P.underlying t with|some (.pointer _)=>true|_=>false
def nR (P:Program) (t:TypeId):Bool:=match P.underlying t with|some (.slice _)=>true|_=>false
def gh (k:IntKind) (n:Int):ay :=
 match k with
 | .i64=>.cond (tf n) (.val (.int .i64 n))
 | k=>.val (.int k (k.wrap n))
inductive FK where
 | i
 | s
 | b
def mU:List FK->List AV->List AV->Option Bool
 | [],[],[]=>some true
 | .i::ks,.int k a::xs,.int k' b::ys=>if k=k' then (mU ks xs ys).map λ r=>(a==b)&&r else none
 | .s::ks,.str a::xs,.str b::ys=>(mU ks xs ys).map λ r=>(a==b)&&r
 | .b::ks,.bool a::xs,.bool b::ys=>(mU ks xs ys).map λ r=>(a==b)&&r
 | _,_,_=>none
def KH (P:Program) (f:Field) (i:Nat):Option FK :=
 if f.offset=i/\f.name ≠ "_" then
  match P.underlying f.type with
  | some .bool=>some .b
  | some (.int _)=>some .i
  | some .string=>some .s
  | _=>none
 else none
def tl (P:Program):List Field->Nat->Option (List FK)
 | [],_=>some []
 | f::fs,i=>match KH P f i,tl P fs (i+1) with
   | some k,some ks=>some (k::ks)
   | _,_=>none
def IN (P:Program) (t:TypeId):Option (List FK) :=
 match P.underlying t with
 | some (.struct fields)=>if P.stoodInHeld t=false/\P.eqGuardType P.depth t=false then tl P fields.toList 0 else none
 | _=>none
def G9 (P:Program) (t:TypeId) (a b:List AV):Option Bool :=
 match IN P t with
 | some ks=>mU ks a b
 | none=>none
def tb (f:Bool->AV):Option Bool->ay
 | some r=>.val (f r)
 | none=>.bad
def It (P:Program) (op:BinOp) (t:TypeId) (x y:AV):ay :=
 match op,x,y with
 | .add,.int k a,.int k' b=>if k=k' then gh k (a+b) else .bad
 | .sub,.int k a,.int k' b=>if k=k' then gh k (a-b) else .bad
 | .mul,.int k a,.int k' b=>if k=k' then gh k (a*b) else .bad
 | .quo,.int k a,.int k' b=>if k=k' then .cond (b≠0) (gh k (a.tdiv b)) else .bad
 | .rem,.int k a,.int k' b=>if k=k' then .cond (b≠0) (.val (.int k (a.tmod b))) else .bad
 | .and,.int k a,.int k' b=>if k=k' then .val (.int k (k.wrap (BitVec.ofInt k.bits a &&& BitVec.ofInt k.bits b).toNat)) else .bad
 | .or,.int k a,.int k' b=>if k=k' then .val (.int k (k.wrap (BitVec.ofInt k.bits a ||| BitVec.ofInt k.bits b).toNat)) else .bad
 | .eql,.int k a,.int k' b=>if k=k' then .val (.bool (a==b)) else .bad
 | .neq,.int k a,.int k' b=>if k=k' then .val (.bool (a != b)) else .bad
 | .lss,.int k a,.int k' b=>if k=k' then .val (.bool (decide (a<b))) else .bad
 | .leq,.int k a,.int k' b=>if k=k' then .val (.bool (decide (a<=b))) else .bad
 | .gtr,.int k a,.int k' b=>if k=k' then .val (.bool (decide (a > b))) else .bad
 | .geq,.int k a,.int k' b=>if k=k' then .val (.bool (decide (a>=b))) else .bad
 | .eql,.str a,.str b=>.val (.bool (a==b))
 | .neq,.str a,.str b=>.val (.bool (a != b))
 | .add,.str a,.str b=>.cond (a.length+b.length<=4294967296) (.val (.str (a++b)))
 | .eql,.bool a,.bool b=>if tH P t=true then .val (.bool (a==b)) else .bad
 | .neq,.bool a,.bool b=>if tH P t=true then .val (.bool (a != b)) else .bad
 | .eql,.agg a,.agg b=>tb .bool (G9 P t a b)
 | .neq,.agg a,.agg b=>tb (λ r=>.bool (!r)) (G9 P t a b)
 | .eql,.iface _ _,.cS=>if jf P t=true then .val (.bool false) else .bad
 | .neq,.iface _ _,.cS=>if jf P t=true then .val (.bool true) else .bad
 | .eql,.aU,.aU=>if kx P t=true then .val (.bool true) else .bad
 | .eql,.box _ _,.aU=>if kx P t=true then .val (.bool false) else .bad
 | .neq,.aU,.aU=>if kx P t=true then .val (.bool false) else .bad
 | .neq,.box _ _,.aU=>if kx P t=true then .val (.bool true) else .bad
 | .eql,.ca _,.aU=>if kx P t=true then .val (.bool false) else .bad
 | .neq,.ca _,.aU=>if kx P t=true then .val (.bool true) else .bad
 | .eql,.ag,.ag=>if nR P t=true then .val (.bool true) else .bad
 | .eql,.vec _ _ _,.ag=>if nR P t=true then .val (.bool false) else .bad
 | .eql,.ms _ _ _ _ _,.ag=>if nR P t=true then .val (.bool false) else .bad
 | _,_,_=>.bad
def isLit:Operand->Bool
 | .const _=>true
 | _=>false
def DU (P:Program) (op:BinOp) (t:TypeId) (lit:Bool) (x y:AV):ay :=
 match op,x,y with
 | .eql,.cS,.cS=>if jf P t=true/\lit=true then .val (.bool true) else .bad
 | .neq,.cS,.cS=>if jf P t=true/\lit=true then .val (.bool false) else .bad
 | op,x,y=>It P op t x y
end Go.Rip
namespace Go.Rip
open Go.RowKit
def AV.scalar:AV->Bool
 | .agg _|.aQ _|.any=>false
 | _=>true
def au:AV->List AV
 | .agg l=>l
 | v=>[v]
theorem BQ {g:Gh} {x:AV} {v:Value} (h:av g x v) (hs:x.scalar=true):v.oneCell'=true:=by
 cases x<;>simp only[AV.scalar,bQ]at hs<;>simp only[av]at h
 all_goals first
  | (subst h; rfl)
  | (obtain⟨_,_,rfl⟩:=h; rfl)
  | (obtain⟨_,_,_,rfl,_⟩:=h; rfl)
  | (obtain⟨_,_,_,_,rfl,_⟩:=h; rfl)
  | (obtain⟨_,_,_,rfl,_⟩:=h; rfl)
  | (obtain⟨_,_,rfl,_⟩:=h; rfl)
  | (obtain⟨_,rfl,_⟩:=h; rfl)
  | (obtain⟨_,_,_,_,rfl,_⟩:=h; rfl)
def AV.cA:AV->Bool
 | .aQ _|.any=>false
 | _=>true
theorem vV {g:Gh} {x:AV} {v:Value} (h:av g x v) (hs:x.cA=true):aC g (au x) v.cells.toList/\∀ u∈v.cells.toList,u.oneCell'=true:=by
 by_cases ha:∃ l,x=.agg l
 . obtain⟨l,rfl⟩:=ha;simp only[av]at h;obtain⟨vs,rfl,h1,h2⟩:=h;exact⟨by simpa [au,Value.cells] using h2,by simpa [Value.cells] using h1⟩
 . have Ry:x.scalar=true:=by cases x<;>simp_all [AV.cA,AV.scalar]
   have h1:=BQ h Ry;have hc:au x=[x]:=by cases x<;>simp_all [au]
   have hv:v.cells=#[v]:=by cases v<;>simp_all [Value.cells,Value.oneCell']
   rw[hc,hv];exact⟨by simp only[aC]; exact⟨v,[],rfl,h,rfl⟩,by simpa using h1⟩
def km (U:St):AV->Option (List AV)
 | .box b off=>(U.box b).map (·.drop off)
 | .ca l=>some l
 | _=>none
theorem pD {g:Gh} {U:St} {w:World} (h:aY g U w) {p:AV} {v:Value} {l:List AV} (hp:av g p v) (hl:km U p=some l) :
 ∃ a vs,v=.pointer (some a)/\a.spot=none/\aC g l vs/\∀ j u,vs[j]?=some u->w.cell? (a.add j)=some u/\u.oneCell'=true:=by
 have je:∀ aE off j,(⟨aE,off,none⟩:Addr).add j=⟨aE,off+j,none⟩:=λ aE off j=>by unfold Addr.add; split<;>simp_all
 cases p<;>simp only[km,reduceCtorEq]at hl
 . rename_i b off;cases hb:U.box b with
   | none=>simp[hb]at hl
   | some l0 =>
     simp[hb]at hl;subst hl;simp only[av]at hp;obtain⟨x,hx,rfl⟩:=hp;obtain⟨x',cur,vs,rest,k1,k2,k3,k4,k5,k6,k7,k8⟩:=h.box b l0 hb;rw[hx]at k1; cases k1;refine⟨⟨x.aE,off,none⟩,vs.drop off,rfl,rfl,k6.drop off,λ j u hu=>?_⟩;rw[je,cell_of_row _ _ _ cur x.e (0,0) k3];rw[List.getElem?_drop]at hu;have aL:off+j<vs.length:=by
      rcases gI (off+j) vs.length with h|h
      . exact h
      . simp[rE h]at hu
     have:cur[off+j]?=some u:=by rw[<- jm,k5,rF aL]; exact hu
     exact⟨this,k7 u (gA (by rw[jm]; exact this))⟩
 . cases hl;simp only[av]at hp;obtain⟨aE,off,vs,rfl,hi,hr⟩:=hp;exact⟨⟨aE,off,none⟩,vs,rfl,rfl,hr,λ j u hu=>by rw[je]; exact h.bT _ _ _ (hi j u hu)⟩
def fV:List AV->ay
 | x::_=>.val x
 | []=>.bad
def si (P:Program) (t:TypeId) (p:AV) (U:St):ay :=
 match lR P t,km U p with
 | some (true,sz),some l=>.cond (sz<=l.length) (.val (.agg (l.take sz)))
 | some (false,_),some l=>fV l
 | _,_=>.bad
theorem mB {P:Program} {t:TypeId} {b:Bool} {sz:Nat} (h:lR P t=some (b,sz)) :
 ∃ i d,P.info? t=some i/\P.underlying t=some d/\Bd d=b/\i.size=sz:=by
 unfold lR at h;split at h
 . rename_i i d hi hd;simp only[fZ,fO]at h;exact⟨i,d,hi,hd,h.1,h.2⟩
 . cases h
theorem jI {P:Program} {t:TypeId} {d:TypeDesc} (h:P.underlying t=some d) (w:World):(isAgg t).run P w=.ok (Bd d) w:=by
 simp only[isAgg,bO,run_underlying h,bZ];cases d<;>rfl
theorem dC {P:Program} {t:TypeId} {i:TypeInfo} (h:P.info? t=some i) (w:World):(sizeOf t).run P w=.ok i.size w:=by
 simp[sizeOf,typeInfo,h]
section
variable {C:ck} {g:Gh} {U:St} {w:World}
theorem Jy (h:aY g U w) {t:TypeId} {p:AV} {v:Value} (hp:av g p v):ay.Fits C g U (si C.P t p U) ((do let x <- Instr.loadAt t v; pure (Next.value x):Sem Next).run C.P w):=by
 unfold si;split
 . rename_i b sz l hv hl;obtain⟨i,d,hi,hd,hb,hsz⟩:=mB hv;obtain⟨a,vs,rfl,ha,hr,hc⟩:=pD h hp hl;intro hle;have hlen:=hr.length;have fD:(loadCells a (vs.take sz).length).run C.P w=.ok (vs.take sz).toArray w :=
    run_loadCells_list (P:=C.P) w a (vs.take sz) λ j u hu=>by
     rw[List.getElem?_take]at hu;split at hu
     . exact (hc j u hu).1
     . cases hu
   have q9:(vs.take sz).length=sz:=by simp; omega
   rw[q9]at fD;simp only[Instr.loadAt,Instr.sureAddr,loadVar,bO,cg,bZ,jI hd,hb,if_true,dC hi,hsz,fD,dO];have KL:∀ u∈vs.take sz,u.oneCell'=true:=λ u hu=>by
    obtain⟨j,hj⟩:=List.getElem?_of_mem hu;rw[List.getElem?_take]at hj;split at hj
    . exact (hc j u hj).2
    . cases hj
   exact aV h (by simp only[av]; exact⟨_,rfl,KL,hr.take sz⟩)
 . rename_i b sz l hv hl;obtain⟨i,d,hi,hd,hb,hsz⟩:=mB hv;obtain⟨a,vs,rfl,ha,hr,hc⟩:=pD h hp hl;cases l with
   | nil=>trivial
   | cons x xs =>
     simp only[aC]at hr;obtain⟨u,us,rfl,h1,h2⟩:=hr;have:=(hc 0 u rfl).1;have h0:a.add 0=a:=by simp[Addr.add]
     rw[h0]at this;simp only[Instr.loadAt,Instr.sureAddr,loadVar,bO,cg,bZ,jI hd,hb,bQ,if_false,run_load,this,dO];exact aV h h1
 . trivial
def ax (l:List AV) (off:Nat) (cs:List AV):List AV:=l.take off++cs++l.drop (off+cs.length)
def FU (P:Program) (t:TypeId) (p v:AV) (U:St):ay :=
 match lR P t,p with
 | some (_,sz),.box b off=>match U.box b with
   | some l=>.cond (v.cA=true/\(au v).length=sz/\off+sz<=l.length) (.kI (.aQ []) b (.box (ax l off (au v))))
   | none=>.bad
 | _,_=>.bad
theorem tT (h:aY g U w) {b off:Nat} {l:List AV} {x:Place} (hb:U.box b=some l) (hx:g.box b=some x) {cs:List AV} {us:List Value} (hr:aC g cs us) (h1:∀ u∈us,u.oneCell'=true)
 (ng:off+cs.length<=l.length):∃ w',(storeCells ⟨x.aE,off,none⟩ us).run C.P w=.ok () w'/\aY g (U.bM b (ax l off cs)) w':=by
 obtain⟨x',cur,vs,rest,k1,k2,k3,k4,k5,k6,k7,k8⟩:=h.box b l hb;rw[hx]at k1; cases k1;have Ht:=hr.length;have q9:=k6.length;have hsz:cur.size=vs.length+rest.length:=by rw[<- qn,k5,eG]
 have fD:=run_storeCells_at C.P x.aE off x.e us 0 cur w k3 (by omega) h1;simp only[Nat.add_zero]at fD;refine⟨_,fD,?_⟩;have e:cur.toList.take off++us++cur.toList.drop (off+us.length)=(vs.take off++us++vs.drop (off+us.length))++rest:=by
  rw[k5,List.take_append_of_le_length (by omega),List.drop_append_of_le_length (by omega)];simp
 refine h.setRow hb hx _ (vs.take off++us++vs.drop (off+us.length)) rest ?_ (by simpa using e) ?_ ?_
 . rw[<- qn];have:=congrArg List.length e;simp only[eG,List.length_take,List.length_drop]at this;simp only[eG,List.length_take,List.length_drop,qn]at this ⊢;omega
 . unfold ax;rw[Ht];exact ((k6.take off).append hr).append (k6.drop _)
 . intro u hu;simp only[fN]at hu;rcases hu with (hu|hu)|hu
   . exact k7 u (List.mem_of_mem_take hu)
   . exact h1 u hu
   . exact k7 u (List.mem_of_mem_drop hu)
theorem GX (h:aY g U w) {t:TypeId} {p x:AV} {v u:Value} (hp:av g p v) (hx:av g x u):ay.Fits C g U (FU C.P t p x U) ((do Instr.storeAt t v u; pure Next.skip:Sem Next).run C.P w):=by
 unfold FU;split
 . rename_i bb sz b off hv;split
   . rename_i l hb;rintro⟨h1,h2,h3⟩;obtain⟨i,d,hi,hd,_,hsz⟩:=mB hv;obtain⟨zZ,yw⟩:=vV hx h1;simp only[av]at hp;obtain⟨y,hy,rfl⟩:=hp;obtain⟨w',fD,hs⟩:=tT (C:=C) h hb hy zZ yw (by rw[h2]; exact h3);have hlen:u.cells.size=sz:=by rw[<- qn,zZ.length]; exact h2
     simp only[Instr.storeAt,Instr.sureAddr,storeVar,bO,cg,bZ,dC hi,hsz,hlen,ne_eq,not_true_eq_false,if_false,dO,fD];exact⟨undef,w',g,.inr ⟨rfl,rfl⟩,Gh.Le.refl g,hs,by simp only[av]; exact⟨[],rfl,by simp[aC]⟩⟩
   . trivial
 . trivial
def DQ (t:TypeId):List AV->ay
 | [.aU,.ag]=>.new .box none (.yN t [.aU,.ag])
 | l=>.cB l
def DP (P:Program) (t:TypeId):ay :=
 match nN P t with
 | some l=>DQ t l
 | none=>.bad
theorem lg {P:Program} {t:TypeId} {l:List AV} (hz:nN P t=some l):∃ i z,P.info? t=some i/\i.zero=some z/\z.cells.toList.mapM jR=some l:=by
 unfold nN at hz;cases hi:P.info? t with
 | none=>simp[hi]at hz
 | some i =>
   cases rm:i.zero with
   | none=>simp[hi,rm]at hz
   | some z=>simp[hi,rm]at hz; exact⟨i,z,rfl,rm,hz⟩
theorem ff {P:Program} {t:TypeId} {i:TypeInfo} {z:Value} (hi:P.info? t=some i) (hz:i.zero=some z) (w:World):(zeroValue t).run P w=.ok z w:=by
 simp[zeroValue,typeInfo,hi,hz]
theorem yH (h:aY g U w) (e:TypeId) {l:List AV} {cur:Array Value} (hl:aC g l cur.toList) (h1:∀ u∈cur.toList,u.oneCell'=true) :
 ay.Fits C g U (.cB l) (.ok (.value (.pointer (some ⟨w.heap.size,0,none⟩))) (w.alloc (.cells cur e))):=by
 obtain⟨b,g',hb,hle,hx,hs⟩:=h.cB e cur cur.toList [] l (by simp) hl h1;exact⟨_,_,g',b,rfl,hb,hle,hs,by simp only[NV.at,av]; exact⟨_,hx,rfl⟩⟩
theorem Gf (h:aY g U w) {t:TypeId}:ay.Fits C g U (DP C.P t) ((do let x <- Instr.alloc t true (.tuple #[]); pure (Next.value x):Sem Next).run C.P w):=by
 unfold DP;split
 . rename_i l hz;obtain⟨i,z,hi,rm,hm⟩:=lg hz;obtain⟨h1,h2⟩:=dB (g:=g) hm;simp only[Instr.alloc,newVar,newRow,bO,cg,bZ,ff hi rm,run_newObj];unfold DQ;split
   . have hlen:=h1.length;obtain⟨b,g',hb,hle,hx,hs⟩:=h.rv (.cells z.cells t) t z.cells.size (.yN t [.aU,.ag]) λ g' hle hi hm=>⟨rfl,by simpa using hlen,z.cells,z.cells.toList,[],heap_alloc_new w _,rfl,by simp,h1.mono hle,h2,hi⟩;exact⟨_,_,g',b,rfl,hb,hle,hs,by simp only[NV.at,av]; exact⟨_,hx,rfl⟩⟩
   . exact yH h t h1 h2
 . trivial
def fM (v:AV):ay:=.cond (v.cA=true) (.cB (au v))
theorem Ku (h:aY g U w) {t:TypeId} {x:AV} {u:Value} (hx:av g x u):ay.Fits C g U (fM x) ((do let y <- Instr.box t u; pure (Next.value y):Sem Next).run C.P w):=by
 intro hl;obtain⟨h1,h2⟩:=vV hx hl;simp only[Instr.box,newVar,newRow,bO,cg,bZ,run_newObj];exact yH h t h1 h2
def aS (x:AV):ay :=
 match x with
 | .box _ _|.ca _|.func (.func _) _ _=>.val x
 | _=>.bad
def uq (P:Program) (s:TypeId) (p:AV) (f:Nat):ay :=
 match wc P s f,p with
 | some o,.box b off=>.val (.box b (off+o))
 | some o,.ca l=>.val (.ca (l.drop o))
 | _,_=>.bad
theorem Gt {P:Program} {s:TypeId} {f o:Nat} (h:wc P s f=some o):∃ fs x,P.underlying s=some (.struct fs)/\fs[f]?=some x/\P.cellsOf x.type≠0/\x.offset=o:=by
 unfold wc at h;split at h
 . rename_i fs hu;split at h
   . rename_i x hx;split at h
     . rename_i hc; cases h; exact⟨fs,x,hu,hx,hc,rfl⟩
     . cases h
   . cases h
 . cases h
theorem uB {aE off n:Nat} {vs:List Value} (h:jD g aE off vs):jD g aE (off+n) (vs.drop n):=λ i u hu=>by
 rw[List.getElem?_drop]at hu;have:=h (n+i) u hu;rwa [Nat.add_assoc]
theorem zS (h:aY g U w) {s f:Nat} {p:AV} {v:Value} (hp:av g p v):ay.Fits C g U (uq C.P s p f) ((do let x <- Instr.fieldAt s v f; pure (Next.value x):Sem Next).run C.P w):=by
 have je:∀ aE off j,(⟨aE,off,none⟩:Addr).add j=⟨aE,off+j,none⟩:=λ aE off j=>by unfold Addr.add; split<;>simp_all
 have key:∀ (o:Nat) (aE off:Nat),wc C.P s f=some o->v=.pointer (some ⟨aE,off,none⟩) ->
  ((do let x <- Instr.fieldAt s v f; pure (Next.value x):Sem Next).run C.P w)=.ok (.value (.pointer (some ⟨aE,off+o,none⟩))) w:=λ o aE off ho hv=>by
  obtain⟨fs,x,hu,hx,hc,rfl⟩:=Gt ho;subst hv;obtain⟨i,hi,hic⟩:∃ i,C.P.info? x.type=some i/\i.size=C.P.cellsOf x.type:=by
   cases hi:C.P.info? x.type with
   | none=>simp[Program.cellsOf,hi]at hc
   | some i=>exact⟨i,rfl,by simp[Program.cellsOf,hi]⟩
  simp only[Instr.fieldAt,bO,cg,bZ,run_underlying hu,hx,Instr.sureAddr,fieldPlace,dC hi,hic,if_neg hc,dO,je]
 unfold uq;split
 . rename_i o b off ho;simp only[av]at hp;obtain⟨x,hx,hv⟩:=hp;rw[key o x.aE off ho hv];exact aV h (by simp only[av]; exact⟨x,hx,rfl⟩)
 . rename_i o l ho;simp only[av]at hp;obtain⟨aE,off,vs,hv,hi,hr⟩:=hp;rw[key o aE off ho hv];exact aV h (by simp only[av]; exact⟨aE,off+o,vs.drop o,rfl,uB hi,hr.drop o⟩)
 . trivial
theorem gb {P:Program} {t e:TypeId} {sz:Nat} (h:dP P t=some (e,sz)) :
 ∃ i z,P.underlying t=some (.slice e)/\P.info? e=some i/\i.zero=some z/\z.cells.size=sz/\i.size=sz/\0<sz/\i.bytes<=32768/\(∀ u∈z.cells.toList,u.oneCell'=true):=by
 unfold dP at h;split at h
 . rename_i e' hu;split at h
   . rename_i i hi;split at h
     . rename_i z hz;split at h
       . rename_i hc;simp only[fZ,fO]at h;obtain⟨rfl,rfl⟩:=h;refine⟨i,z,hu,hi,hz,hc.1,rfl,hc.2.1,hc.2.2.1,λ u hu=>?_⟩;have:=hc.2.2.2;rw[Array.all_eq_true_iff_forall_mem]at this;exact this u (by simpa using hu)
       . cases h
     . cases h
   . cases h
 . cases h
def sI (P:Program) (t:TypeId):Option (Nat×TypeId×Nat) :=
 match P.underlying t with
 | some (.array n e)=>match P.info? e with
   | some i=>some (n,e,i.size)
   | none=>none
 | _=>none
theorem rU {P:Program} {t e:TypeId} {n sz:Nat} (h:sI P t=some (n,e,sz)):∃ i,P.underlying t=some (.array n e)/\P.info? e=some i/\i.size=sz:=by
 unfold sI at h;split at h
 . rename_i n' e' hu;split at h
   . rename_i i hi;simp only[fZ,fO]at h;obtain⟨rfl,rfl,rfl⟩:=h;exact⟨i,hu,hi,rfl⟩
   . cases h
 . cases h
def Kk (P:Program) (t:TypeId) (x i:AV):ay :=
 match sI P t,x,i with
 | some (n,_,sz),.ca l,.int _ j=>.cond (0<=j/\j<n) (.val (.ca (l.drop (j.toNat*sz))))
 | some (n,_,sz),.box b off,.int _ j=>.cond (0<=j/\j<n) (.val (.box b (off+j.toNat*sz)))
 | _,_,_=>.bad
def uC (P:Program) (t:TypeId) (x i:AV):ay :=
 match dP P t,x,i with
 | none,x,i=>Kk P t x i
 | some (_,sz),.vec n _ l,.int _ j=>.cond (0<=j/\j<n) (.val (.ca (l.drop (j.toNat*sz))))
 | some (_,sz),.ms b off n gy _,.int _ j=>.cond (0<=j/\j<n/\gy=sz) (.val (.box b (off+j.toNat*sz)))
 | _,_,_=>.bad
theorem Ai (h:aY g U w) {t:TypeId} {x y:AV} {v u:Value} (hx:av g x v) (hy:av g y u):ay.Fits C g U (uC C.P t x y) ((do let x <- Instr.indexAt t v u; pure (Next.value x):Sem Next).run C.P w):=by
 have je:∀ aE off j,(⟨aE,off,none⟩:Addr).add j=⟨aE,off+j,none⟩:=λ aE off j=>by unfold Addr.add; split<;>simp_all
 have key:∀ (e:TypeId) (sz:Nat) (aE off n c:Nat) (k:IntKind) (j:Int),dP C.P t=some (e,sz)->v=.slice (some ⟨aE,off,none⟩) n c->u=.int k j->0<=j->j<n ->
  ((do let x <- Instr.indexAt t v u; pure (Next.value x):Sem Next).run C.P w)=.ok (.value (.pointer (some ⟨aE,off+j.toNat*sz,none⟩))) w:=λ e sz aE off n c k j ho hv hu h0 h1=>by
  obtain⟨i,z,mX,hi,hz,_,hsz,_⟩:=gb ho;subst hv hu;simp only[Instr.indexAt,asIntOf,bO,cg,bZ,run_underlying mX,h0,h1,and_self,if_true,dO,dC hi,hsz,je]
 unfold uC;split
 . unfold Kk;split
   . rename_i n e sz l k j ha;rintro⟨h0,h1⟩;obtain⟨i,mX,hi,hsz⟩:=rU ha;simp only[av]at hx hy;obtain⟨aE,off,vs,rfl,iv,hr⟩:=hx;subst hy;simp only[Instr.indexAt,asIntOf,bO,cg,bZ,run_underlying mX,Instr.sureAddr,h0,h1,and_self,if_true,dO,dC hi,hsz,je];exact aV h (by simp only[av]; exact⟨aE,_,_,rfl,uB iv,hr.drop _⟩)
   . rename_i n e sz b off k j ha;rintro⟨h0,h1⟩;obtain⟨i,mX,hi,hsz⟩:=rU ha;simp only[av]at hx hy;obtain⟨x,hb,rfl⟩:=hx;subst hy;simp only[Instr.indexAt,asIntOf,bO,cg,bZ,run_underlying mX,Instr.sureAddr,h0,h1,and_self,if_true,dO,dC hi,hsz,je];exact aV h (by simp only[av]; exact⟨x,hb,rfl⟩)
   . trivial
 . rename_i e sz n cap l k j hs;rintro⟨h0,h1⟩;simp only[av]at hx hy;obtain⟨aE,off,c,vs,hv,_,_,_,hi,hr⟩:=hx;rw[key e sz aE off n c k j hs hv hy h0 h1];exact aV h (by simp only[av]; exact⟨aE,_,_,rfl,uB hi,hr.drop _⟩)
 . rename_i e sz b off n gy e' k j hs;rintro⟨h0,h1,rfl⟩;simp only[av]at hx hy;obtain⟨x,c,hb,hv,_⟩:=hx;rw[key e gy x.aE off n c k j hs hv hy h0 h1];exact aV h (by simp only[av]; exact⟨x,hb,rfl⟩)
 . trivial
def ln (P:Program) (t:TypeId):Bool:=match P.underlying t with|some .string=>true|_=>false
def Ah (P:Program) (t:TypeId) (x i:AV):ay :=
 match x,i with
 | .str s,.int _ j=>if ln P t=true then .cond (0<=j/\j<s.length) (.val (.int .u8 (s.getD j.toNat 0).toNat)) else .bad
 | .agg l,.int _ j=>match sI P t with
   | some (n,e,sz)=>match lR P e with
     | some (false,_)=>.cond (0<=j/\j<n) (fV (l.drop (j.toNat*sz)))
     | some (true,k)=>.cond (0<=j/\j<n/\k=sz/\j.toNat*sz+sz<=l.length) (.val (.agg ((l.drop (j.toNat*sz)).take sz)))
     | none=>.bad
   | none=>.bad
 | _,_=>.bad
theorem nF {P:Program} {t:TypeId} (h:ln P t=true):P.underlying t=some .string:=by
 unfold ln at h;split at h
 . assumption
 . cases h
theorem Gx (h:aY g U w) {t:TypeId} {x y:AV} {v u:Value} (hx:av g x v) (hy:av g y u):ay.Fits C g U (Ah C.P t x y) ((do let x <- Instr.index t v u; pure (Next.value x):Sem Next).run C.P w):=by
 unfold Ah;split
 . rename_i s k j;split
   . rename_i ht;rintro⟨h0,h1⟩;simp only[av]at hx hy;subst hx hy;have hj:j.toNat<s.length:=by omega
     have e:(ByteArray.mk s.toArray)[j.toNat]?=some (s.getD j.toNat 0):=by
      have hsz:(ByteArray.mk s.toArray).size=s.length:=by simp[ByteArray.size]
      rw[getElem?_pos _ _ (by rw[hsz]; exact hj)];simp[BK,nq hj];rfl
     simp only[Instr.index,asIntOf,bO,cg,bZ,run_underlying (nF ht),h0,if_true,e];exact aV h (by simp only[av])
   . trivial
 . rename_i l k j;split
   . rename_i n e sz ha;obtain⟨i,mX,hi,hsz⟩:=rU ha;simp only[av]at hx hy;subst hy;obtain⟨vs,rfl,KL,hr⟩:=hx;split
     . rename_i sz' hv;obtain⟨i',d,iv,hd,hb,_⟩:=mB hv;rintro⟨h0,h1⟩;cases hl:l.drop (j.toNat*sz) with
       | nil=>trivial
       | cons z zs =>
         have hz:l[j.toNat*sz]?=some z:=by
          have:=congrArg (λ l=>l[0]?) hl;simpa using this
         obtain⟨u,hu2,Ws⟩:=hr.get hz;have e1:vs.toArray[j.toNat*sz]?=some u:=by simpa using hu2
         simp only[Instr.index,asIntOf,bO,cg,bZ,run_underlying mX,h0,h1,and_self,if_true,dO,dC hi,hsz,part,jI hd,hb,bQ,if_false,e1];exact aV h Ws
     . rename_i k' hv;obtain⟨i',d,iv,hd,hb,hk⟩:=mB hv;rw[hi]at iv; cases iv;rintro⟨h0,h1,rfl,h2⟩;simp only[Instr.index,asIntOf,bO,cg,bZ,run_underlying mX,h0,h1,and_self,if_true,dO,dC hi,hsz,part,jI hd,hb];refine aV h ?_;simp only[av];refine⟨(vs.drop (j.toNat*k')).take k',?_,λ u hu=>KL u (List.mem_of_mem_drop (List.mem_of_mem_take hu)),(hr.drop _).take _⟩;congr 1;apply Array.ext';simp[List.extract_eq_take_drop]
     . trivial
   . trivial
 . trivial
end
end Go.Rip
namespace Go.Rip
open Go.RowKit
section
variable {C:ck} {g:Gh} {U:St} {w:World}
theorem oS {P:Program} {d:Nat}:∀ (fs:List Field) (i:Nat) (ks:List FK) (xs ys:List AV) (us vs:Array Value) (r:Bool),tl P fs i=some ks->mU ks xs ys=some r ->
 aC g xs (us.toList.drop i)->aC g ys (vs.toList.drop i)->(Op.eqFields (d+1) us vs fs).run P w=.ok r w
 | [],i,ks,xs,ys,us,vs,r,hk,he,_,_=>by
   simp only[tl,fZ]at hk;subst hk;cases xs<;>cases ys<;>simp only[mU,reduceCtorEq,fZ]at he
   subst he;simp[Op.eqFields]
 | f::fs,i,ks,xs,ys,us,vs,r,hk,he,hx,hy=>by
   simp only[tl]at hk;split at hk
   . rename_i k ks' hf KX;simp only[fZ]at hk;subst hk;unfold KH at hf;split at hf
     . rename_i hc;obtain⟨ho,hn⟩:=hc;have Ru:∀ (us:Array Value) (u:Value),us[i]?=some u->∀ dd,P.underlying f.type=some dd->Bd dd=false->(part f.type us f.offset).run P w=.ok u w:=λ us u hu dd hd ha=>by
        simp only[part,bO,jI hd,bZ,ha,bQ,if_false,ho,hu,cg,dO]
       have mH:∀ {xs:List AV} {x:AV} {us:Array Value},aC g (x::xs) (us.toList.drop i)->∃ u,us[i]?=some u/\av g x u/\aC g xs (us.toList.drop (i+1)):=λ {xs x us} h=>by
        simp only[aC]at h;obtain⟨u,rest,e,h1,h2⟩:=h;refine⟨u,?_,h1,?_⟩
        . have:=congrArg (λ l=>l[0]?) e;simpa using this
        . have:=congrArg (List.drop 1) e;rw[List.drop_drop]at this;rw[this]; simpa using h2
       have wm:∀ (u v:Value) (q r':Bool) (dd:TypeDesc),us[i]?=some u->vs[i]?=some v->P.underlying f.type=some dd->Bd dd=false->(Op.equalIn (d+1) f.type u v).run P w=.ok q w ->
        (Op.eqFields (d+1) us vs fs).run P w=.ok r' w->(Op.eqFields (d+1) us vs (f::fs)).run P w=.ok (q&&r') w:=λ u v q r' dd hu hv hd ha heq aaP=>by
        simp only[Op.eqFields,if_pos hn,bO,Ru us u hu dd hd ha,Ru vs v hv dd hd ha,bZ,heq,dO,cg,aaP];cases q<;>simp
       split at hf
       . rename_i hd;cases hf;cases xs with
         | nil=>simp[mU]at he
         | cons x xs =>
           cases ys with
           | nil=>cases x<;>simp[mU]at he
           | cons y ys =>
             cases x<;>cases y<;>simp only[mU,reduceCtorEq]at he
             cases hr:mU ks' xs ys with
             | none=>simp[hr]at he
             | some r' =>
               simp[hr]at he;subst he;obtain⟨u,hu,Cn,jG⟩:=mH hx;obtain⟨v,hv,Cp,Lg⟩:=mH hy;simp only[av]at Cn Cp;subst Cn Cp;have:=wm _ _ _ r' _ hu hv hd rfl (run_equalIn_bool' w d f.type _ _ hd) (oS fs (i+1) ks' xs ys us vs r' KX hr jG Lg);rw[this]
       . rename_i kk hd;cases hf;cases xs with
         | nil=>simp[mU]at he
         | cons x xs =>
           cases ys with
           | nil=>cases x<;>simp[mU]at he
           | cons y ys =>
             cases x<;>cases y<;>simp only[mU,reduceCtorEq]at he
             split at he
             . rename_i e; subst e;cases hr:mU ks' xs ys with
               | none=>simp[hr]at he
               | some r' =>
                 simp[hr]at he;subst he;obtain⟨u,hu,Cn,jG⟩:=mH hx;obtain⟨v,hv,Cp,Lg⟩:=mH hy;simp only[av]at Cn Cp;subst Cn Cp;have:=wm _ _ _ r' _ hu hv hd rfl (run_equalIn_int w d f.type _ _ _ _ hd) (oS fs (i+1) ks' xs ys us vs r' KX hr jG Lg);rw[this]
             . cases he
       . rename_i hd;cases hf;cases xs with
         | nil=>simp[mU]at he
         | cons x xs =>
           cases ys with
           | nil=>cases x<;>simp[mU]at he
           | cons y ys =>
             cases x<;>cases y<;>simp only[mU,reduceCtorEq]at he
             cases hr:mU ks' xs ys with
             | none=>simp[hr]at he
             | some r' =>
               simp[hr]at he;subst he;obtain⟨u,hu,Cn,jG⟩:=mH hx;obtain⟨v,hv,Cp,Lg⟩:=mH hy;simp only[av]at Cn Cp;subst Cn Cp;have:=wm _ _ _ r' _ hu hv hd rfl (run_equalIn_string w d f.type _ _ hd) (oS fs (i+1) ks' xs ys us vs r' KX hr jG Lg);rw[this];simp[ByteArray.toList_eq]
       . cases hf
     . cases hf
   . cases hk
theorem AJ {P:Program} {t:TypeId} {a b:List AV} {us vs:List Value} {r:Bool} (h:G9 P t a b=some r) (ha:aC g a us) (hb:aC g b vs) :
 (Op.equalIn 10000 t (.agg us.toArray) (.agg vs.toArray)).run P w=.ok r w/\P.eqGuardType P.depth t=false:=by
 unfold G9 at h;split at h
 . rename_i ks kM;unfold IN at kM;split at kM
   . rename_i fs hu;split at kM
     . rename_i hc;have ZJ:P.fieldsOf t=fs:=by simp[Program.fieldsOf,hu]
       refine⟨?_,hc.2⟩;rw[run_equalIn_struct w 9999 t _ _ (by rw[ZJ]; exact hu) hc.1,ZJ];exact oS (d:=9998) fs.toList 0 ks a b _ _ r kM h (by simpa using ha) (by simpa using hb)
     . cases kM
   . cases kM
 . cases h
theorem qw {P:Program} (w:World) (d:Nat) (t:TypeId) (ms:Array (String×TypeId)) (h:P.underlying t=some (.interface ms)) (a:TypeId) (b:Value):(Op.equalIn (d+1) t (.iface a b) .nilIface).run P w=.ok false w:=by
 simp[Op.equalIn,run_underlying h]
theorem ic {P:Program} (w:World) (d:Nat) (t e:TypeId) (h:P.underlying t=some (.pointer e)) (a:Option Addr):(Op.equalIn (d+1) t (.pointer a) (.pointer none)).run P w=.ok a.isNone w:=by
 cases a<;>simp[Op.equalIn,run_underlying h]
theorem mr {P:Program} (w:World) (d:Nat) (t e:TypeId) (h:P.underlying t=some (.slice e)) (a:Option Addr) (n c:Nat):(Op.equalIn (d+1) t (.slice a n c) (.slice none 0 0)).run P w=.ok a.isNone w:=by
 cases a<;>simp[Op.equalIn,run_underlying h]
theorem oT {P:Program} (w:World) (d:Nat) (t:TypeId) (ms:Array (String×TypeId)) (h:P.underlying t=some (.interface ms)):(Op.equalIn (d+1) t .nilIface .nilIface).run P w=.ok true w:=by
 simp[Op.equalIn,run_underlying h]
theorem Kq (h:aY g U w) {op:BinOp} {t:TypeId} {x y:AV} {u v:Value} (X Y:Operand) (hx:av g x u) (hy:av g y v) :
 ay.Fits C g U (It C.P op t x y) ((do let r <- (do eqGuard op t X Y u v; binOp op t u v:Sem Value); pure (Next.value r):Sem Next).run C.P w):=by
 have hI:∀ (k:IntKind) (n:Int),ay.Fits C g U (gh k n) (.ok (.value (.int k (k.wrap n))) w):=λ k n=>by
  unfold gh;split
  . intro hi;rw[vj hi];exact aV h (by simp only[av])
  . exact aV h (by simp only[av])
 unfold It;split
 all_goals first
  | trivial
  | skip
 all_goals simp only[av]at hx hy
 all_goals first
  | (subst hx hy
     split
     . rename_i e; subst e
       first
        | (simp only[eqGuard,binOp,ne_eq,not_true_eq_false,if_false,Op.intArith,Op.intCmp,Op.intBits,bO,cg,bZ,Bool.not_eq_true',Bool.true_eq_false,cT,dZ,bQ,if_true,dO]
           first
            | exact hI _ _
            | exact aV h (by simp only[av]))
        | (intro hb
           simp only[eqGuard,binOp,ne_eq,not_true_eq_false,if_false,Op.intDiv,if_neg hb,bO,cg,bZ,Bool.not_eq_true',Bool.true_eq_false,cT,dZ,bQ,if_true,dO]
           first
            | exact hI _ _
            | exact aV h (by simp only[av]))
     . trivial)
  | skip
 . subst hx hy;simp only[eqGuard,binOp,Op.stringOp,bO,cg,bZ,cT,bQ,if_false,dO,ByteArray.toList_eq,List.toList_toArray];exact aV h (by simp only[av])
 . subst hx hy;simp only[eqGuard,binOp,Op.stringOp,bO,cg,bZ,cT,bQ,if_false,dO,ByteArray.toList_eq,List.toList_toArray];exact aV h (by simp only[av]; rfl)
 . subst hx hy;rename_i a b;intro hle;have h1:¬ (((ByteArray.mk a.toArray).size+(ByteArray.mk b.toArray).size:Nat):Int) > IntKind.i64.max:=by
    have e1:(ByteArray.mk a.toArray).size=a.length:=by simp[ByteArray.size]
    have e2:(ByteArray.mk b.toArray).size=b.length:=by simp[ByteArray.size]
    have e3:IntKind.i64.max=9223372036854775807:=by simp[IntKind.max,IntKind.signed,IntKind.bits]
    rw[e1,e2,e3]; omega
   have h2:(ByteArray.mk a.toArray)++(ByteArray.mk b.toArray)=ByteArray.mk (a++b).toArray:=by
    apply ByteArray.ext;simp
   simp only[eqGuard,binOp,Op.stringOp,bO,cg,bZ,if_neg h1,dO,cT,dZ,bQ,if_true,if_false,h2];exact aV h (by simp only[av])
 . subst hx hy;split
   . rename_i ht;have hu:C.P.underlying t=some .bool:=by unfold tH at ht; split at ht<;>simp_all
     have hr:=run_equalIn_bool' (P:=C.P) w 9999 t;simp only[eqGuard,binOp,Op.equal,Op.maxDepth,bO,cg,bZ,hr _ _ hu,cT,bQ,if_false,dO];exact aV h (by simp only[av])
   . trivial
 . subst hx hy;split
   . rename_i ht;have hu:C.P.underlying t=some .bool:=by unfold tH at ht; split at ht<;>simp_all
     have hr:=run_equalIn_bool' (P:=C.P) w 9999 t;simp only[eqGuard,binOp,Op.equal,Op.maxDepth,bO,cg,bZ,hr _ _ hu,cT,bQ,if_false,dO];exact aV h (by simp only[av]; rfl)
   . trivial
 . rename_i a b;obtain⟨us,rfl,_,ha⟩:=hx;obtain⟨vs,rfl,_,hb⟩:=hy;cases he:G9 C.P t a b with
   | none=>trivial
   | some r =>
     obtain⟨h1,h2⟩:=AJ (w:=w) he ha hb;simp only[tb,bO,run_eqGuard_agg w _ _ _ _ _ _ h2,bZ,run_eql_struct,h1,cg];exact aV h (by simp only[av])
 . rename_i a b;obtain⟨us,rfl,_,ha⟩:=hx;obtain⟨vs,rfl,_,hb⟩:=hy;cases he:G9 C.P t a b with
   | none=>trivial
   | some r =>
     obtain⟨h1,h2⟩:=AJ (w:=w) he ha hb;simp only[tb,bO,run_eqGuard_agg w _ _ _ _ _ _ h2,bZ,run_neq_struct,h1,cg];exact aV h (by simp only[av])
 . obtain⟨u',rfl,_⟩:=hx;subst hy;split
   . rename_i ht;obtain⟨ms,hu⟩:∃ ms,C.P.underlying t=some (.interface ms):=by unfold jf at ht; split at ht<;>simp_all
     have hr:=qw (P:=C.P) w 9999 t ms hu;simp only[eqGuard,binOp,Op.equal,Op.maxDepth,hr,bO,cg,bZ,cT,bQ,if_false,dO];exact aV h (by simp only[av])
   . trivial
 . obtain⟨u',rfl,_⟩:=hx;subst hy;split
   . rename_i ht;obtain⟨ms,hu⟩:∃ ms,C.P.underlying t=some (.interface ms):=by unfold jf at ht; split at ht<;>simp_all
     have hr:=qw (P:=C.P) w 9999 t ms hu;simp only[eqGuard,binOp,Op.equal,Op.maxDepth,hr,bO,cg,bZ,cT,dZ,bQ,if_false,dO];exact aV h (by simp only[av])
   . trivial
 . subst hx hy;split
   . rename_i ht;obtain⟨ms,hu⟩:∃ ms,C.P.underlying t=some (.pointer ms):=by unfold kx at ht; split at ht<;>simp_all
     have hr:=ic (P:=C.P) w 9999 t ms hu;simp only[eqGuard,binOp,Op.equal,Op.maxDepth,hr,bO,cg,bZ,Option.isNone_none,cT,dZ,bQ,if_false,dO];exact aV h (by simp[av])
   . trivial
 . obtain⟨x,_,rfl⟩:=hx;subst hy;split
   . rename_i ht;obtain⟨ms,hu⟩:∃ ms,C.P.underlying t=some (.pointer ms):=by unfold kx at ht; split at ht<;>simp_all
     have hr:=ic (P:=C.P) w 9999 t ms hu;simp only[eqGuard,binOp,Op.equal,Op.maxDepth,hr,bO,cg,bZ,Option.isNone_none,cT,dZ,bQ,if_false,dO];exact aV h (by simp[av])
   . trivial
 . subst hx hy;split
   . rename_i ht;obtain⟨ms,hu⟩:∃ ms,C.P.underlying t=some (.pointer ms):=by unfold kx at ht; split at ht<;>simp_all
     have hr:=ic (P:=C.P) w 9999 t ms hu;simp only[eqGuard,binOp,Op.equal,Op.maxDepth,hr,bO,cg,bZ,Option.isNone_none,cT,dZ,bQ,if_false,dO];exact aV h (by simp[av])
   . trivial
 . obtain⟨x,_,rfl⟩:=hx;subst hy;split
   . rename_i ht;obtain⟨ms,hu⟩:∃ ms,C.P.underlying t=some (.pointer ms):=by unfold kx at ht; split at ht<;>simp_all
     have hr:=ic (P:=C.P) w 9999 t ms hu;simp only[eqGuard,binOp,Op.equal,Op.maxDepth,hr,bO,cg,bZ,Option.isNone_none,cT,dZ,bQ,if_false,dO];exact aV h (by simp[av])
   . trivial
 . obtain⟨_,_,_,rfl,_⟩:=hx;subst hy;split
   . rename_i ht;obtain⟨ms,hu⟩:∃ ms,C.P.underlying t=some (.pointer ms):=by unfold kx at ht; split at ht<;>simp_all
     have hr:=ic (P:=C.P) w 9999 t ms hu;simp only[eqGuard,binOp,Op.equal,Op.maxDepth,hr,bO,cg,bZ,Option.isNone_none,cT,dZ,bQ,if_false,dO];exact aV h (by simp[av])
   . trivial
 . obtain⟨_,_,_,rfl,_⟩:=hx;subst hy;split
   . rename_i ht;obtain⟨ms,hu⟩:∃ ms,C.P.underlying t=some (.pointer ms):=by unfold kx at ht; split at ht<;>simp_all
     have hr:=ic (P:=C.P) w 9999 t ms hu;simp only[eqGuard,binOp,Op.equal,Op.maxDepth,hr,bO,cg,bZ,Option.isNone_none,cT,dZ,bQ,if_false,dO];exact aV h (by simp[av])
   . trivial
 . subst hx;subst hy;split
   . rename_i ht;obtain⟨ms,hu⟩:∃ ms,C.P.underlying t=some (.slice ms):=by unfold nR at ht; split at ht<;>simp_all
     have hr:=mr (P:=C.P) w 9999 t ms hu;simp only[eqGuard,binOp,Op.equal,Op.maxDepth,hr,bO,cg,bZ,Option.isNone_none,Option.isNone_some,cT,dZ,bQ,if_false,dO];exact aV h (by simp[av])
   . trivial
 . obtain⟨_,_,_,_,rfl,_⟩:=hx;subst hy;split
   . rename_i ht;obtain⟨ms,hu⟩:∃ ms,C.P.underlying t=some (.slice ms):=by unfold nR at ht; split at ht<;>simp_all
     have hr:=mr (P:=C.P) w 9999 t ms hu;simp only[eqGuard,binOp,Op.equal,Op.maxDepth,hr,bO,cg,bZ,Option.isNone_none,Option.isNone_some,cT,dZ,bQ,if_false,dO];exact aV h (by simp[av])
   . trivial
 . obtain⟨_,_,_,rfl,_⟩:=hx;subst hy;split
   . rename_i ht;obtain⟨ms,hu⟩:∃ ms,C.P.underlying t=some (.slice ms):=by unfold nR at ht; split at ht<;>simp_all
     have hr:=mr (P:=C.P) w 9999 t ms hu;simp only[eqGuard,binOp,Op.equal,Op.maxDepth,hr,bO,cg,bZ,Option.isNone_none,Option.isNone_some,cT,dZ,bQ,if_false,dO];exact aV h (by simp[av])
   . trivial
theorem Ks (h:aY g U w) {op:BinOp} {t:TypeId} {x y:AV} {u v:Value} (X Y:Operand) (hx:av g x u) (hy:av g y v) :
 ay.Fits C g U (DU C.P op t (isLit X||isLit Y) x y) ((do let r <- (do eqGuard op t X Y u v; binOp op t u v:Sem Value); pure (Next.value r):Sem Next).run C.P w):=by
 have key:∀ (op:BinOp),(op=.eql\/op=.neq)->jf C.P t=true->(isLit X||isLit Y)=true->(eqGuard op t X Y .nilIface .nilIface).run C.P w=.ok () w:=λ op hop ht hl=>by
  obtain⟨ms,hu⟩:∃ ms,C.P.underlying t=some (.interface ms):=by unfold jf at ht; split at ht<;>simp_all
  rcases hop with rfl|rfl<;>cases X<;>cases Y<;>simp[isLit]at hl<;>simp[eqGuard]
 unfold DU;split
 . simp only[av]at hx hy;subst hx hy;split
   . rename_i ht;obtain⟨ms,hu⟩:∃ ms,C.P.underlying t=some (.interface ms):=by have ht:=ht.1; unfold jf at ht; split at ht<;>simp_all
     have hr:=oT (P:=C.P) w 9999 t ms hu;simp only[bO,key _ (.inl rfl) ht.1 ht.2,binOp,Op.equal,Op.maxDepth,hr,cg,bZ,cT,dZ,bQ,if_false,dO];exact aV h (by simp[av])
   . trivial
 . simp only[av]at hx hy;subst hx hy;split
   . rename_i ht;obtain⟨ms,hu⟩:∃ ms,C.P.underlying t=some (.interface ms):=by have ht:=ht.1; unfold jf at ht; split at ht<;>simp_all
     have hr:=oT (P:=C.P) w 9999 t ms hu;simp only[bO,key _ (.inr rfl) ht.1 ht.2,binOp,Op.equal,Op.maxDepth,hr,cg,bZ,cT,dZ,bQ,if_false,dO];exact aV h (by simp[av])
   . trivial
 . exact Kq h X Y hx hy
end
end Go.Rip
namespace Go.Rip
open Go.RowKit
section
variable {C:ck} {g:Gh} {U:St} {w:World}
def Ir (P:Program) (t u:TypeId):Option (TypeId×Nat) :=
 match P.underlying u with
 | some (.slice _)=>dP P t
 | some .string=>match dP P t with
   | some (e,1)=>some (e,1)
   | _=>none
 | _=>none
def qo (U:St):AV->Option (Nat×List AV)
 | .vec m _ l=>some (m,l)
 | .ag=>some (0,[])
 | .ms b off m gy _=>match U.box b with
   | some l=>some (m,(l.drop off).take (m*gy))
   | none=>none
 | .str s=>some (s.length,s.map λ b=>.int .u8 b.toNat)
 | _=>none
def Be (P:Program) (t u:TypeId) (mu:Bool) (s y:AV) (U:St):ay :=
 match Ir P t u,qo U y with
 | some (e,sz),some (m,l2) =>
   .cond (l2.length=m*sz) (match s with
   | .ag=>if m=0 then .val .ag else .cond (m<=4294967296) (if mu then .mJ m sz e none l2 else .lr m l2 none ⟨m,e,sz⟩)
   | .vec n .full l=>if m=0 then .val s else .cond (l.length=n*sz/\n+m<=4294967296) (.lr (n+m) (l++l2) none ⟨n+m,e,sz⟩)
   | .vec n (.own τ) l=>.cond (U.tok τ=some ⟨n,e,sz⟩/\l.length=n*sz/\n+m<=4294967296) (.lr (n+m) (l++l2) (some τ) ⟨n+m,e,sz⟩)
   | .ms b off n gy e'=>match U.box b with
     | some l=>.cond (off=0/\gy=sz/\e'=e/\n*sz<=l.length/\n+m<=4294967296) (.mJ (n+m) sz e (some b) (l.take (n*sz)++l2))
     | none=>.bad
   | _=>.bad)
 | _,_=>.bad
theorem Kj {P:Program} {t u e:TypeId} {sz:Nat} (h:Ir P t u=some (e,sz)):dP P t=some (e,sz)/\∃ d,P.underlying u=some d/\((∃ x,d=.slice x)\/d=.string):=by
 unfold Ir at h;split at h
 . rename_i x hx; exact⟨h,_,hx,.inl ⟨x,rfl⟩⟩
 . rename_i hx;split at h
   . rename_i e' he;simp only[fZ,fO]at h;obtain⟨rfl,rfl⟩:=h;exact⟨he,_,hx,.inr rfl⟩
   . cases h
 . cases h
theorem Od (h:aY g U w) {y:AV} {v:Value} (hy:av g y v) {m:Nat} {l2:List AV} (hs:qo U y=some (m,l2)) {sz:Nat} (hl:l2.length=m*sz) :
 (∀ W,(Builtin.lenOf v).run C.P W=.ok m W)/\∃ us:List Value,aC g l2 us/\(∀ u∈us,u.oneCell'=true)/\∀ W:World,W.heap=w.heap->(Builtin.firstCells sz m v).run C.P W=.ok us.toArray W:=by
 have je:∀ aE off j,(⟨aE,off,none⟩:Addr).add j=⟨aE,off+j,none⟩:=λ aE off j=>by unfold Addr.add; split<;>simp_all
 have pG:∀ (W:World) a,W.heap=w.heap->W.cell? a=w.cell? a:=λ W a hW=>by simp[World.cell?,hW]
 have read:∀ (aE off c:Nat) (us:List Value),us.length=m*sz->(∀ j u,us[j]?=some u->w.cell? ⟨aE,off+j,none⟩=some u)->∀ W:World,W.heap=w.heap ->
  (Builtin.firstCells sz m (.slice (some ⟨aE,off,none⟩) m c)).run C.P W=.ok us.toArray W:=λ aE off c us hlen hc W hW=>by
  exact run_firstCells_some W sz m ⟨aE,off,none⟩ m c us hlen (λ j u hu=>by rw[je,pG W _ hW]; exact hc j u hu)
 cases y<;>simp only[qo,reduceCtorEq,fZ,fO]at hs
 . rename_i s;obtain⟨rfl,rfl⟩:=hs;simp only[av]at hy;subst hy;have hsz:(ByteArray.mk s.toArray).size=s.length:=by simp[ByteArray.size]
   refine⟨λ W=>by simp[Builtin.lenOf,hsz],s.map (λ b=>Value.int .u8 b.toNat),?_,by simp[Value.oneCell'],λ W _=>?_⟩
   . refine aC.Ax (by simp) λ i x u hx hu=>?_;simp only[jB,nr]at hx hu;obtain⟨b,hb,rfl⟩:=hx;obtain⟨b',dR,rfl⟩:=hu;rw[hb]at dR; cases dR;simp only[av]
   . simp only[Builtin.firstCells,cg];congr 1;apply Array.ext';simp
 . obtain⟨rfl,rfl⟩:=hs;simp only[av]at hy;subst hy;exact⟨λ W=>by simp[Builtin.lenOf],[],by simp[aC],by simp,λ W _=>by simp[Builtin.firstCells]⟩
 . rename_i n cap l;obtain⟨rfl,rfl⟩:=hs;simp only[av]at hy;obtain⟨aE,off,c,vs,rfl,_,_,_,hi,hr⟩:=hy;exact⟨λ W=>by simp[Builtin.lenOf],vs,hr,λ u hu=>by
    obtain⟨j,hj⟩:=List.getElem?_of_mem hu;exact (h.bT _ _ _ (hi j u hj)).2,read aE off c vs (by rw[hr.length,hl]) λ j u hu=>(h.bT _ _ _ (hi j u hu)).1⟩
 . rename_i b off n gy e';split at hs
   . rename_i l hb;simp only[fZ,fO]at hs;obtain⟨rfl,rfl⟩:=hs;simp only[av]at hy;obtain⟨x,c,hx,rfl,_,_,_,_⟩:=hy;obtain⟨a,vs,hv,ha,hr,hc⟩:=pD h (p:=.box b off) (v:=.pointer (some ⟨x.aE,off,none⟩)) (l:=l.drop off) (by simp only[av]; exact⟨x,hx,rfl⟩) (by simp[km,hb]);cases hv;refine⟨λ W=>by simp[Builtin.lenOf],vs.take (n*gy),hr.take _,λ u hu=>?_,read x.aE off c _ (by rw[(hr.take _).length,hl]) λ j u hu=>?_⟩
     . obtain⟨j,hj⟩:=List.getElem?_of_mem hu;rw[List.getElem?_take]at hj;split at hj
       . exact (hc j u hj).2
       . cases hj
     . rw[List.getElem?_take]at hu;split at hu
       . have:=(hc j u hu).1; rwa [je]at this
       . cases hu
   . cases hs
theorem mP {P:Program} {w:World} {t u ty e:TypeId} {i:TypeInfo} {d:TypeDesc} (ht:P.underlying t=some (.slice e)) (hu:P.underlying u=some d) (hd:(∃ x,d=.slice x)\/d=.string) (hi:P.info? e=some i)
 {base:Option Addr} {n c m:Nat} {v:Value} {us:List Value} (hm:∀ W,(Builtin.lenOf v).run P W=.ok m W) (hf:(Builtin.firstCells i.size m v).run P w=.ok us.toArray w) (nL:n+m<=c) :
 (Builtin.append_ #[t,u] ty #[.slice base n c,v]).run P w=match base with
   | some a=>((storeCells (a.add (n*i.size)) us).run P w).andThen λ _ w'=>.ok (.slice base (n+m) c) w'
   | none=>.ok (.slice base (n+m) c) w:=by
 rcases hd with ⟨x,rfl⟩|rfl<;>cases base <;>
  simp[Builtin.append_,run_underlying ht,run_underlying hu,sizeOf,typeInfo,hi,hm,nL,hf]
theorem BP {P:Program} {w:World} {t u ty e:TypeId} {i:TypeInfo} {z:Value} {d:TypeDesc} (ht:P.underlying t=some (.slice e)) (hu:P.underlying u=some d) (hd:(∃ x,d=.slice x)\/d=.string) (hi:P.info? e=some i) (hz:i.zero=some z) (zY:i.bytes<=32768)
 {base:Option Addr} {n c m:Nat} {v:Value} {wT us:List Value} (hm:∀ W,(Builtin.lenOf v).run P W=.ok m W) (hf:∀ W:World,W.heap=w.heap->(Builtin.firstCells i.size m v).run P W=.ok us.toArray W)
 (ho:∀ W:World,W.heap=w.heap->(Builtin.firstCells i.size n (.slice base n c)).run P W=.ok wT.toArray W) (adk:c<n+m) (mW:n+m<=4294967296) :
 (Builtin.append_ #[t,u] ty #[.slice base n c,v]).run P w =
   .ok (.slice (some ⟨w.heap.size,0,none⟩) (n+m) (grownCap w (n+m) c e))
    (w.drew.alloc (.cells (wT.toArray++us.toArray++Builtin.zeroCells z.cells (grownCap w (n+m) c e-(n+m))) e)):=by
 have nL:¬ (n+m<=c):=by omega
 have Pe:¬ (9223372036854775807<((n:Int)+(m:Int))):=by omega
 have hb2:(n+m)*i.bytes<=140737488355328:=Nat.le_trans (Nat.mul_le_mul mW zY) (by omega);have KM:=growslice_fits (old:=c) (need:=n+m) (bytes:=i.bytes) (by omega) hb2;have Pd:¬ (281474976710656<Builtin.nextslicecap (n+m) c*i.bytes):=by omega
 have Rb:=hf w.drew rfl;have Rq:=ho w.drew rfl;rcases hd with ⟨x,rfl⟩|rfl <;>
 . simp[Builtin.append_,run_underlying ht,run_underlying hu,sizeOf,typeInfo,zeroValue,hi,hz,hm,nL,Pe,Pd,Question.forced,Rb,Rq,newRow,grownCap];congr 2;apply Array.ext';simp[nu]
theorem St.G7 (U:St) (d:Option Nat):St.Le (U.qh d) U:=by
 cases d with
 | none=>exact St.Le.refl U
 | some b=>exact St.qT U b
theorem nA {w:World} (h:aY g U w) {del:Option Nat} {e:TypeId} {sz n c:Nat} {l:List AV} {vs rest:List Value} (hr:aC g l vs) (h1:∀ u∈vs,u.oneCell'=true) (h2:∀ u∈rest,u.oneCell'=true)
 (hl:l.length=n*sz) (hc:vs.length+rest.length=c*sz) (hn:n<=c) (tt:c<=maxLen) :
 ay.Fits C g U (.lr n l del ⟨n,e,sz⟩) (.ok (.value (.slice (some ⟨w.heap.size,0,none⟩) n c)) (w.alloc (.cells (vs++rest).toArray e))):=by
 obtain⟨τ,g',h3,hle,h4,h5,h6⟩:=(h.weaken (St.G7 U del)).lr e sz n c (vs++rest).toArray vs rest (by simp) (by
  intro u hu;simp only[fN]at hu;rcases hu with hu|hu
  . exact h1 u hu
  . exact h2 u hu) (by rw[hr.length,hl]) (by simp[hc]) hn tt
 refine⟨_,_,g',τ,rfl,h3,hle,h6,?_⟩;simp only[NV.at,av];exact⟨w.heap.size,0,c,vs,rfl,hn,tt,⟨rfl,h4⟩,h5,hr.mono hle⟩
theorem oD {w:World} (h:aY g U w) {del:Option Nat} {e:TypeId} {sz n c:Nat} {l:List AV} {vs rest:List Value} (hr:aC g l vs) (h1:∀ u∈vs,u.oneCell'=true) (h2:∀ u∈rest,u.oneCell'=true)
 (hc:vs.length+rest.length=c*sz) (hn:n<=c) (tt:c<=maxLen) :
 ay.Fits C g U (.mJ n sz e del l) (.ok (.value (.slice (some ⟨w.heap.size,0,none⟩) n c)) (w.alloc (.cells (vs++rest).toArray e))):=by
 obtain⟨b,g',h3,hle,h4,h6⟩:=(h.weaken (St.G7 U del)).cB e (vs++rest).toArray vs rest l (by simp) hr (by
  intro u hu;simp only[fN]at hu;rcases hu with hu|hu
  . exact h1 u hu
  . exact h2 u hu)
 refine⟨_,_,g',b,rfl,h3,hle,h6,?_⟩;simp only[NV.at,av];exact⟨_,c,h4,rfl,hn,tt,by simp[hc],rfl⟩
theorem ke {z:Array Value} (hz:∀ u∈z.toList,u.oneCell'=true) (n:Nat) (hp:0<z.size):∀ u∈(Builtin.zeroCells z n).toList,u.oneCell'=true:=by
 intro u hu;simp only[Builtin.zeroCells,Array.toList_map,List.mem_map]at hu;obtain⟨i,_,rfl⟩:=hu;have aL:i%z.size<z.size:=Nat.mod_lt _ hp;rw[getElem!_pos z _ aL];exact hz _ (by simp)
theorem DR (h:aY g U w) {t u ty:TypeId} {mu:Bool} {s y:AV} {v v2:Value} (hs:av g s v) (hy:av g y v2) :
 ay.Fits C g U (Be C.P t u mu s y U) ((do let r <- Builtin.append_ #[t,u] ty #[v,v2]; pure (Next.value r):Sem Next).run C.P w):=by
 have je:∀ aE off j,(⟨aE,off,none⟩:Addr).add j=⟨aE,off+j,none⟩:=λ aE off j=>by unfold Addr.add; split<;>simp_all
 unfold Be;split
 . rename_i e sz m l2 hap Je;intro q9;obtain⟨rk,d,hu,hd⟩:=Kj hap;obtain⟨i,z,ht,hi,hz,tC,rfl,qk,zY,hz1⟩:=gb rk;obtain⟨hm,us,ri,qW,hf⟩:=Od (C:=C) h hy Je q9;have Ld:us.length=m*i.size:=by rw[ri.length,q9]
   have grow:∀ (base:Option Addr) (n c:Nat) (wT:List Value),(∀ W:World,W.heap=w.heap->(Builtin.firstCells i.size n (.slice base n c)).run C.P W=.ok wT.toArray W)->wT.length=n*i.size->c<n+m->n+m<=4294967296 ->
    ∃ cap rest,n+m<=cap/\cap<=maxLen/\(∀ u∈rest,u.oneCell'=true)/\(wT++us).length+rest.length=cap*i.size /\
    (Builtin.append_ #[t,u] ty #[.slice base n c,v2]).run C.P w=.ok (.slice (some ⟨w.drew.heap.size,0,none⟩) (n+m) cap) (w.drew.alloc (.cells ((wT++us)++rest).toArray e)):=λ base n c wT ho hol aL mW=>by
    have jW:=grownCap_ge w (n+m) c e;have hle:=grownCap_le_maxLen w (n+m) c e (by unfold maxLen; omega);refine⟨grownCap w (n+m) c e,(Builtin.zeroCells z.cells (grownCap w (n+m) c e-(n+m))).toList,jW,hle,ke hz1 _ (by omega),?_,?_⟩
    . rw[eG,hol,Ld,qn,size_zeroCells,tC,<- Nat.add_mul,<- Nat.add_mul];congr 1; omega
    . rw[BP ht hu hd hi hz zY hm hf ho aL mW];congr 3;simp
   split
   . simp only[av]at hs;subst hs;split
     . rename_i h0;subst h0;rw[bO,mP ht hu hd hi hm (hf w rfl) (by omega)];exact aV h (by simp only[av])
     . rename_i h0;intro mW;obtain⟨cap,rest,h1,h2,h3,h4,h5⟩:=grow none 0 0 [] (λ W _=>by simp[Builtin.firstCells]) (by simp) (by omega) (by omega);rw[bO,h5];have dK:=h.grow (jd w);simp only[cq,iK]at h1 h4 h5 ⊢;split
       . exact oD dK ri qW h3 h4 h1 h2
       . exact nA dK ri qW h3 q9 h4 h1 h2
   . rename_i n l;have rj:=hs;simp only[av]at hs;obtain⟨aE,off,c,vs,rfl,Ci,tt,wj,lJ,hr⟩:=hs;simp only[rR]at wj;subst wj;split
     . rename_i h0;subst h0;rw[bO,mP ht hu hd hi hm (hf w rfl) (by omega)];have aaU:us=[]:=List.eq_nil_of_length_eq_zero (by simpa using Ld);subst aaU;simp only[storeCells,cg,bZ,Nat.add_zero];exact aV h rj
     . rename_i h0;rintro⟨hl,mW⟩;have HD:vs.length=c*i.size:=by rw[hr.length,hl]
       have ho:∀ W:World,W.heap=w.heap->(Builtin.firstCells i.size c (.slice (some ⟨aE,off,none⟩) c c)).run C.P W=.ok vs.toArray W:=λ W hW =>
        run_firstCells_some W i.size c ⟨aE,off,none⟩ c c vs HD (λ j u hu=>by
         rw[je];have:W.cell? ⟨aE,off+j,none⟩=w.cell? ⟨aE,off+j,none⟩:=by simp[World.cell?,hW]
         rw[this]; exact (h.bT _ _ _ (lJ j u hu)).1)
       obtain⟨cap,rest,h1,h2,h3,h4,h5⟩:=grow (some ⟨aE,off,none⟩) c c vs ho HD (by omega) mW;rw[bO,h5];have dK:=h.grow (jd w);refine nA dK (hr.append ri) ?_ h3 (by rw[eG,hl,q9,Nat.add_mul]) h4 h1 h2;intro u hu;simp only[fN]at hu;rcases hu with hu|hu
       . obtain⟨j,hj⟩:=List.getElem?_of_mem hu;exact (h.bT _ _ _ (lJ j u hj)).2
       . exact qW u hu
   . rename_i n τ l;rintro⟨Wh,hl,mW⟩;simp only[av]at hs;obtain⟨aE,off,c,vs,rfl,Ci,tt,wj,lJ,hr⟩:=hs;simp only[rR]at wj;obtain⟨rfl,yy⟩:=wj;obtain⟨aao,c',cur,k1,k2,k3,k4,k5,k6,k7⟩:=h.tok τ _ Wh;rw[yy]at k1; cases k1;have HD:vs.length=n*i.size:=by rw[hr.length,hl]
     by_cases nL:n+m<=c
     . have ng:n*i.size+us.length<=cur.size:=by
        have e4:cur.size=c*i.size:=k4;rw[Ld,e4,<- Nat.add_mul]; exact Nat.mul_le_mul_right _ nL
       have fz:=run_storeCells_at C.P aE (n*i.size) e us 0 cur w k3 (by simpa using ng) qW;simp only[Nat.add_zero]at fz;rw[bO,mP ht hu hd hi hm (hf w rfl) nL];simp only[je,cq,fz,bZ];obtain⟨sF,g',t1,hle,t2,t3,t4⟩:=h.Xo Wh yy cur (cur.toList.take (n*i.size)++us++cur.toList.drop (n*i.size+us.length)).toArray us m k3 Ld nL (by simp) qW;refine⟨_,_,g',sF,rfl,t1,hle,t4,?_⟩;simp only[NV.at,av];refine⟨aE,0,c,vs++us,rfl,nL,tt,⟨rfl,t2⟩,λ j u hu=>?_,(hr.append ri).mono hle⟩
       by_cases hj:j<vs.length
       . rw[rF hj]at hu;exact (lJ.mono hle) j u hu
       . rw[List.getElem?_append_right (by omega)]at hu;have e0:n*i.size+(j-vs.length)=0+j:=by omega
         have t3':g'.bT aE (n*i.size+(j-vs.length))=some u:=t3 _ u hu;rw[e0]at t3';exact t3'
     . have ho:∀ W:World,W.heap=w.heap->(Builtin.firstCells i.size n (.slice (some ⟨aE,0,none⟩) n c)).run C.P W=.ok vs.toArray W:=λ W hW =>
        run_firstCells_some W i.size n ⟨aE,0,none⟩ n c vs HD (λ j u hu=>by
         rw[je];have:W.cell? ⟨aE,0+j,none⟩=w.cell? ⟨aE,0+j,none⟩:=by simp[World.cell?,hW]
         rw[this]; exact (h.bT _ _ _ (lJ j u hu)).1)
       obtain⟨cap,rest,h1,h2,h3,h4,h5⟩:=grow (some ⟨aE,0,none⟩) n c vs ho HD (by omega) mW;rw[bO,h5];have dK:=h.grow (jd w);refine nA dK (hr.append ri) ?_ h3 (by rw[eG,hl,q9,Nat.add_mul]) h4 h1 h2;intro u hu;simp only[fN]at hu;rcases hu with hu|hu
       . obtain⟨j,hj⟩:=List.getElem?_of_mem hu;exact (h.bT _ _ _ (lJ j u hj)).2
       . exact qW u hu
   . rename_i b off n gy e';split
     . rename_i l hb;rintro⟨rfl,rfl,rfl,Z2,mW⟩;simp only[av]at hs;obtain⟨x,c,hx,rfl,Ci,tt,YY,Wo⟩:=hs;obtain⟨x',cur,vs,Y7,k1,k2,k3,k4,k5,k6,k7,k8⟩:=h.box b l hb;rw[hx]at k1; cases k1;have tu:cur.size=c*i.size:=by rw[k4]; omega
       have HD:=k6.length
       by_cases nL:n+m<=c
       . have ng:n*i.size+us.length<=cur.size:=by
          rw[Ld,tu,<- Nat.add_mul]; exact Nat.mul_le_mul_right _ nL
         have fz:=run_storeCells_at C.P x.aE (n*i.size) x.e us 0 cur w k3 (by simpa using ng) qW;simp only[Nat.add_zero]at fz;rw[bO,mP ht hu hd hi hm (hf w rfl) nL];simp only[je,cq,fz,bZ];have e1:cur.toList.take (n*i.size)=vs.take (n*i.size):=by rw[k5,List.take_append_of_le_length (by omega)]
         have wx:=h.setRow hb hx (l':=l.take (n*i.size)++l2) (cur.toList.take (n*i.size)++us++cur.toList.drop (n*i.size+us.length)).toArray (vs.take (n*i.size)++us) (cur.toList.drop (n*i.size+us.length)) (by
          simp only[List.size_toArray,eG,List.length_take,List.length_drop,qn]; omega) (by simp[e1]) ((k6.take _).append ri) (by
          intro u hu;simp only[fN]at hu;rcases hu with (hu|hu)|hu
          . exact k7 u (List.mem_of_mem_take hu)
          . exact qW u hu
          . exact k7 u (List.mem_of_mem_drop hu))
         obtain⟨b',g',f1,hle,f2,f3⟩:=wx.rename (b:=b) (x:=.box (l.take (n*i.size)++l2)) (by simp[St.bM,St.set]) hx;have ed:(U.bM b (l.take (n*i.size)++l2)).del b=U.del b:=by
          simp only[St.bM,St.set,St.del,St.mk.injEq,and_true];funext y;split<;>rfl
         rw[ed]at f1 f3;refine⟨_,_,g',b',rfl,f1,hle,f3,?_⟩;simp only[NV.at,av];exact⟨x,c,f2,rfl,nL,tt,YY,Wo⟩
       . have hvn:(vs.take (n*i.size)).length=n*i.size:=by simp; omega
         have ho:∀ W:World,W.heap=w.heap->(Builtin.firstCells i.size n (.slice (some ⟨x.aE,0,none⟩) n c)).run C.P W=.ok (vs.take (n*i.size)).toArray W:=λ W hW =>
          run_firstCells_some W i.size n ⟨x.aE,0,none⟩ n c _ hvn (λ j u hu=>by
           rw[je];have:W.cell? ⟨x.aE,0+j,none⟩=w.cell? ⟨x.aE,0+j,none⟩:=by simp[World.cell?,hW]
           rw[this,cell_of_row _ _ _ cur x.e (0,0) k3,cq,<- jm,k5];rw[List.getElem?_take]at hu;split at hu
           . rw[rF (by omega)]; exact hu
           . cases hu)
         obtain⟨cap,rest,h1,h2,h3,h4,h5⟩:=grow (some ⟨x.aE,0,none⟩) n c _ ho hvn (by omega) mW;rw[bO,h5];have dK:=h.grow (jd w);refine oD dK ((k6.take _).append ri) ?_ h3 h4 h1 h2;intro u hu;simp only[fN]at hu;rcases hu with hu|hu
         . refine k7 u ?_;rw[k5];exact List.mem_append_left _ (List.mem_of_mem_take hu)
         . exact qW u hu
     . trivial
   . trivial
 . trivial
end
end Go.Rip
namespace Go.Rip
open Go.RowKit
section
variable {C:ck} {g:Gh} {U:St} {w:World}
def dh (wa:Int):Option AV->Option Int
 | none=>some wa
 | some (.int _ n)=>some n
 | _=>none
def uk:kf->Option AV->kf
 | .full,none=>.full
 | _,_=>.eR
def FM (P:Program) (t:TypeId) (x:AV) (lo hi:Option AV):ay :=
 match x with
 | .str s=>match ln P t,dh 0 lo,dh s.length hi with
   | true,some l,some h=>.cond (0<=l/\l<=h/\h<=s.length) (.val (.str ((s.take h.toNat).drop l.toNat)))
   | _,_,_=>.bad
 | .vec n cap l=>match dP P t,dh 0 lo,dh n hi with
   | some (_,sz),some a,some b=>.cond (0<=a/\a<=b/\b<=n) (.val (.vec (b.toNat-a.toNat) (uk cap hi) ((l.take (b.toNat*sz)).drop (a.toNat*sz))))
   | _,_,_=>.bad
 | .ag=>match dP P t,dh 0 lo,dh 0 hi with
   | some (_,_),some a,some b=>.cond (a=0/\b=0) (.val .ag)
   | _,_,_=>.bad
 | .ms b off n gy e=>match dP P t,dh 0 lo,dh n hi with
   | some (_,sz),some a,some h=>.cond (0<=a/\a<=h/\h<=n/\(a<n\/a=0)/\gy=sz) (.val (.ms b (off+a.toNat*sz) (h.toNat-a.toNat) gy e))
   | _,_,_=>.bad
 | _=>.bad
theorem run_sliceBound {P:Program} {x:Value} {k:IntKind} {n:Int} {y:Nat} {code:BoundsCode} (hx:x=.int k n) (h0:0<=n) (h1:n<=y):(Instr.sliceBound x y code).run P w=.ok n.toNat w:=by
 subst hx;simp[Instr.sliceBound,asIntOf,h0,h1]
theorem zK {wa:Int} {o:Option AV} {v:Option Value} {n:Int} (hr:match o,v with|none,none=>True|some x,some u=>av g x u|_,_=>False) (hb:dh wa o=some n) :
 (o=none/\v=none/\n=wa)\/∃ k u,v=some u/\u=.int k n/\∃ x,o=some x:=by
 cases o with
 | none =>
   cases v with
   | none=>simp[dh]at hb; exact .inl ⟨rfl,rfl,hb.symm⟩
   | some u=>exact hr.elim
 | some x =>
   cases v with
   | none=>exact hr.elim
   | some u =>
     cases x<;>simp only[dh,reduceCtorEq,fZ]at hb
     subst hb;simp only[av]at hr;exact .inr ⟨_,u,rfl,hr,_,rfl⟩
theorem lW {P:Program} {isS:Bool} {len cap:Nat} {lo hi:Option AV} {vl vh:Option Value} {a b:Int}
 (hl:match lo,vl with|none,none=>True|some x,some u=>av g x u|_,_=>False) (hh:match hi,vh with|none,none=>True|some x,some u=>av g x u|_,_=>False)
 (ha:dh 0 lo=some a) (hb:dh len hi=some b) (h0:0<=a) (h1:a<=b) (h2:b<=len) (h3:len<=cap) :
 (Instr.sliceBounds isS len cap vl vh none).run P w=.ok (a.toNat,b.toNat,cap) w:=by
 rcases zK hl ha with ⟨_,rfl,rfl⟩|⟨k,u,rfl,hu,_⟩<;>rcases zK hh hb with ⟨_,rfl,rfl⟩|⟨k',u',rfl,mX,_⟩
 . simp[Instr.sliceBounds]
 . have e1:∀ c,(Instr.sliceBound u' cap c).run P w=.ok b.toNat w:=λ c=>run_sliceBound mX (by omega) (by omega);simp[Instr.sliceBounds,e1]
 . have e1:∀ c,(Instr.sliceBound u len c).run P w=.ok a.toNat w:=λ c=>run_sliceBound hu h0 (by omega);simp[Instr.sliceBounds,e1]
 . have e1:∀ c,(Instr.sliceBound u' cap c).run P w=.ok b.toNat w:=λ c=>run_sliceBound mX (by omega) (by omega);have e2:∀ c,(Instr.sliceBound u b.toNat c).run P w=.ok a.toNat w:=λ c=>run_sliceBound hu h0 (by omega);simp[Instr.sliceBounds,e1,e2]
theorem GW (h:aY g U w) {t:TypeId} {x:AV} {v:Value} {lo hi:Option AV} {vl vh:Option Value} (hx:av g x v)
 (hl:match lo,vl with|none,none=>True|some x,some u=>av g x u|_,_=>False) (hh:match hi,vh with|none,none=>True|some x,some u=>av g x u|_,_=>False) :
 ay.Fits C g U (FM C.P t x lo hi) ((do let r <- Instr.sliceAt t v vl vh none; pure (Next.value r):Sem Next).run C.P w):=by
 have je:∀ aE off j,(⟨aE,off,none⟩:Addr).add j=⟨aE,off+j,none⟩:=λ aE off j=>by unfold Addr.add; split<;>simp_all
 unfold FM;split
 . rename_i s;split
   . rename_i a b ht ha hb;rintro⟨h0,h1,h2⟩;simp only[av]at hx;subst hx;have hsz:(ByteArray.mk s.toArray).size=s.length:=by simp[ByteArray.size]
     have hr:=lW (w:=w) (P:=C.P) (isS:=false) hl hh ha hb h0 h1 h2 (cN _);simp only[Instr.sliceAt,Instr.slice,run_underlying (nF ht),bO,bZ,hsz,hr,cg,Option.isSome_none,bQ,if_false];refine aV h ?_;simp only[av];congr 1;apply ByteArray.ext;simp only[ByteArray.data_extract];apply Array.ext';simp[List.extract_eq_take_drop,List.drop_take]
   . trivial
 . rename_i n cap l;split
   . rename_i e sz a b ht ha hb;rintro⟨h0,h1,h2⟩;simp only[av]at hx;obtain⟨aE,off,c,vs,rfl,Ci,tt,wj,lJ,hr⟩:=hx;obtain⟨i,z,hu,iv,hz,tC,rfl,qk,_⟩:=gb ht;have fD:=lW (w:=w) (P:=C.P) (isS:=true) hl hh ha hb h0 h1 h2 Ci;simp only[Instr.sliceAt,Instr.slice,run_underlying hu,bO,bZ,fD,cg,dC iv];refine aV h ?_;have YK:rR g (uk cap hi) aE (if c=a.toNat then off else off+a.toNat*i.size) (b.toNat-a.toNat) (c-a.toNat):=by
      cases cap with
      | full =>
        cases hi with
        | none =>
          simp only[uk,rR]at wj ⊢;simp only[dh,fZ]at hb;omega
        | some y=>trivial
      | own τ=>trivial
      | eR=>trivial
     simp only[av];refine⟨aE,if c=a.toNat then off else off+a.toNat*i.size,c-a.toNat,(vs.take (b.toNat*i.size)).drop (a.toNat*i.size),?_,by omega,by omega,YK,?_,(hr.take _).drop _⟩
     . simp only[Option.map_some,je];split<;>rfl
     . split
       . rename_i e1;have:(vs.take (b.toNat*i.size)).drop (a.toNat*i.size)=[]:=by
          rw[List.drop_eq_nil_iff];have:b.toNat<=a.toNat:=by omega
          have:=Nat.mul_le_mul_right i.size this;simp; omega
         rw[this]; intro j u hu; simp at hu
       . intro j u hu;rw[List.getElem?_drop,List.getElem?_take]at hu;split at hu
         . have:=lJ _ u hu;rw[Nat.add_assoc]; exact this
         . cases hu
   . trivial
 . split
   . rename_i e sz a b ht ha hb;rintro⟨rfl,rfl⟩;simp only[av]at hx;subst hx;obtain⟨i,z,hu,iv,hz,tC,rfl,qk,_⟩:=gb ht;have fD:=lW (w:=w) (P:=C.P) (isS:=true) (len:=0) (cap:=0) hl hh ha (by simpa using hb) (by omega) (by omega) (by simp) (cN _);simp only[Instr.sliceAt,Instr.slice,run_underlying hu,bO,bZ,fD,cg,dC iv];refine aV h (by simp[av])
   . trivial
 . rename_i b off n gy e;split
   . rename_i e' sz a hh' ht ha hb;rintro⟨h0,h1,h2,h3,rfl⟩;simp only[av]at hx;obtain⟨y,c,hy,rfl,Ci,tt,hsz,Wo⟩:=hx;obtain⟨i,z,hu,iv,hz,tC,rfl,qk,_⟩:=gb ht;have fD:=lW (w:=w) (P:=C.P) (isS:=true) hl hh ha hb h0 h1 h2 Ci;simp only[Instr.sliceAt,Instr.slice,run_underlying hu,bO,bZ,fD,cg,dC iv];refine aV h ?_;simp only[av];have e2:off+a.toNat*i.size+(c-a.toNat)*i.size=y.size:=by
      have:a.toNat*i.size+(c-a.toNat)*i.size=c*i.size:=by rw[<- Nat.add_mul]; congr 1; omega
      omega
     refine⟨y,c-a.toNat,hy,?_,by omega,by omega,e2,Wo⟩;simp only[Option.map_some,je];split
     . rename_i e1;have h0a:a.toNat=0:=by omega
       simp[h0a]
     . rfl
   . trivial
 . trivial
def ig (op:UnOp) (x:AV):ay :=
 match op,x with
 | .not,.bool b=>.val (.bool (!b))
 | .neg,.int k n=>gh k (0-n)
 | _,_=>.bad
theorem Gg (h:aY g U w) (k:IntKind) (n:Int):ay.Fits C g U (gh k n) (.ok (.value (.int k (k.wrap n))) w):=by
 unfold gh;split
 . intro hi;rw[vj hi];exact aV h (by simp only[av])
 . exact aV h (by simp only[av])
theorem Qy (h:aY g U w) {op:UnOp} {x:AV} {v:Value} (hx:av g x v):ay.Fits C g U (ig op x) ((do let r <- Op.unary op v; pure (Next.value r):Sem Next).run C.P w):=by
 unfold ig;split
 . simp only[av]at hx; subst hx;exact aV h (by simp only[av])
 . simp only[av]at hx; subst hx;simp only[Op.unary,Op.intArith,bO,cg,bZ];exact Gg h _ _
 . trivial
def Jl (P:Program) (t:TypeId):Option IntKind:=match P.underlying t with|some (.int k)=>some k|_=>none
def uF (P:Program) (t:TypeId):Bool:=match P.underlying t with
 | some (.slice e)=>match P.underlying e with
   | some (.int .u8)=>true
   | _=>false
 | _=>false
theorem Dc {P:Program} {t:TypeId} (h:uF P t=true):∃ e,P.underlying t=some (.slice e)/\P.underlying e=some (.int .u8):=by
 unfold uF at h;split at h
 . rename_i e he;split at h
   . rename_i hu; exact⟨e,he,hu⟩
   . cases h
 . cases h
def Dl (P:Program) (src dst:TypeId) (x:AV):ay :=
 match Jl P dst,(P.underlying src).isSome,x with
 | some .i64,true,.int _ n=>.cond (tf n) (.val (.int .i64 n))
 | some k,true,.int _ n=>.val (.int k (k.wrap n))
 | none,true,.str s=>if ln P dst=true/\ln P src=true then .val (.str s) else
   if uF P dst=true/\ln P src=true then .cond (s.length<=4294967296) (.val (.vec s.length .eR (s.map λ b=>.int .u8 b.toNat))) else .bad
 | _,_,_=>.bad
theorem Df (h:aY g U w) {src dst e:TypeId} {s:List UInt8} (hd:C.P.underlying dst=some (.slice e)) (he:C.P.underlying e=some (.int .u8)) (hs:C.P.underlying src=some .string) (hlen:s.length<=4294967296) :
 ay.Fits C g U (.val (.vec s.length .eR (s.map λ b=>.int .u8 b.toNat))) ((do let r <- convert src dst (.string ⟨s.toArray⟩); pure (Next.value r):Sem Next).run C.P w):=by
 have fD:=Lib.run_convert_string_bytes (P:=C.P) w src dst e ⟨s.toArray⟩ hs hd he;have hsz:(ByteArray.mk s.toArray).size=s.length:=by simp[ByteArray.size]
 rw[hsz]at fD;have jW:=grownCap_ge w s.length 0 e;have hle:=grownCap_le_maxLen w s.length 0 e (by unfold maxLen; omega);let vs:List Value:=s.map λ b=>.int .u8 b.toNat;let g':Gh:={ g with bT:=λ aE o=>if aE=w.heap.size then vs[o]? else g.bT aE o }
 have nQ:∀ o,g'.bT w.heap.size o=vs[o]?:=λ o=>by show (if w.heap.size=w.heap.size then _ else _)=_; rw[if_pos rfl]
 have hold:∀ aE o,aE≠w.heap.size->g'.bT aE o=g.bT aE o:=λ aE o hx=>by show (if aE=w.heap.size then _ else _)=_; rw[if_neg hx]
 have I9:Gh.Le g g':=⟨rfl,rfl,λ _ _ h=>h,λ aE o u hu=>by
  rw[hold _ _ (λ e=>by subst e; rw[h.xO (cN _)]at hu; cases hu)]; exact hu,λ _ _ h=>h,λ _ h=>h,λ q o hq=>hold _ _ (by have:=h.le; omega),λ _ _=>rfl⟩
 have dK:aY g' U (Lib.bytesWorld w e ⟨s.toArray⟩):=by
  refine h.change w.heap.size h.le I9 rfl rfl ⟨rfl,rfl,rfl,by rw[Lib.bytesWorld_size]; omega⟩ (λ k _ hk=>Lib.bytesWorld_at_old w e _ k hk) hold (λ _ _=>rfl) (λ o u hu=>?_) (λ es c hr=>?_) (λ b x p k1 k2=>Nat.ne_of_lt (h.uQ k1 k2)) (h.BO (cN _))
  . rw[nQ]at hu;simp only[vs,jB,nr]at hu;obtain⟨b,hb,rfl⟩:=hu;have aL:=(dp.1 hb).1;refine⟨?_,rfl⟩;rw[Lib.bytesWorld_cell w e ⟨s.toArray⟩ o (by rw[hsz]; exact aL)];simp[List.getD,hb]
  . have:g.bL w.heap.size=some (es,c):=hr;rw[h.uA (cN _)]at this; cases this
 simp only[bO,fD,bZ,cg];refine⟨_,_,g',.inl rfl,I9,dK,?_⟩;simp only[av];refine⟨w.heap.size,0,_,vs,rfl,jW,hle,trivial,λ i u hu=>by rw[cq,nQ]; exact hu,?_⟩;refine aC.Ax (by simp[vs]) λ i x v hx hv=>?_;simp only[vs,jB,nr]at hx hv;obtain⟨b,hb,rfl⟩:=hx;obtain⟨b',dR,rfl⟩:=hv;rw[hb]at dR; cases dR;simp only[av]
theorem IE (h:aY g U w) {src dst:TypeId} {x:AV} {v:Value} (hx:av g x v):ay.Fits C g U (Dl C.P src dst x) ((do let r <- convert src dst v; pure (Next.value r):Sem Next).run C.P w):=by
 unfold Dl;split
 . rename_i k n hk hs;simp only[av]at hx; subst hx;have hu:C.P.underlying dst=some (.int .i64):=by unfold Jl at hk; split at hk<;>simp_all
   obtain⟨d,hd⟩:=Option.isSome_iff_exists.1 hs;intro hi;simp only[convert,run_underlying hu,run_underlying hd,bO,cg,bZ,Conv.intToInt];rw[vj hi];exact aV h (by simp only[av])
 . rename_i k _ n _ hk hs;simp only[av]at hx; subst hx;have hu:C.P.underlying dst=some (.int k):=by unfold Jl at hk; split at hk<;>simp_all
   obtain⟨d,hd⟩:=Option.isSome_iff_exists.1 hs;simp only[convert,run_underlying hu,run_underlying hd,bO,cg,bZ,Conv.intToInt];exact aV h (by simp only[av])
 . split
   . rename_i hc;simp only[av]at hx; subst hx;simp only[convert,run_underlying (nF hc.1),run_underlying (nF hc.2),bO,cg,bZ];exact aV h (by simp only[av])
   . split
     . rename_i hc;intro hlen;simp only[av]at hx; subst hx;obtain⟨e,hd,he⟩:=Dc hc.1;exact Df h hd he (nF hc.2) hlen
     . trivial
 . trivial
def wQ (P:Program) (t:TypeId):Bool:=match P.underlying t with|some (.interface _)=>false|some _=>true|none=>false
def uL (P:Program) (t:TypeId) (x:AV):ay:=if wQ P t=true then .val (.iface t x) else .bad
theorem Aq (h:aY g U w) {t:TypeId} {x:AV} {v:Value} (hx:av g x v):ay.Fits C g U (uL C.P t x) ((do let r <- Instr.makeInterface t v; pure (Next.value r):Sem Next).run C.P w):=by
 unfold uL;split
 . rename_i hc;unfold wQ at hc;split at hc
   . cases hc
   . rename_i d hn hd;simp only[Instr.makeInterface,run_underlying hd,bO,bZ];cases d
     case interface=>exact (hn _ rfl).elim
     all_goals
      simp only[cg,bZ];exact aV h (by simp only[av]; exact⟨v,rfl,hx⟩)
   . cases hc
 . trivial
def aK (x:AV) (i:Nat):ay :=
 match x with
 | .aQ l=>fV (l.drop i)
 | _=>.bad
theorem C9 (h:aY g U w) {x:AV} {v:Value} (hx:av g x v) (i:Nat):ay.Fits C g U (aK x i) ((do let r <- Instr.extract v i; pure (Next.value r):Sem Next).run C.P w):=by
 unfold aK;split
 . rename_i l;simp only[av]at hx;obtain⟨vs,rfl,hr⟩:=hx;cases hd:l.drop i with
   | nil=>trivial
   | cons y ys =>
     have hy:l[i]?=some y:=by
      have:=congrArg (λ l=>l[0]?) hd;simpa using this
     obtain⟨u,hu,hyu⟩:=hr.get hy;have e:vs.toArray[i]?=some u:=by simpa using hu
     simp only[Instr.extract,e,bO,cg,bZ];exact aV h hyu
 . trivial
def rB (x:AV):ay :=
 match x with
 | .iface t v=>.panic (.iface t v)
 | _=>.bad
theorem GK (h:aY g U w) {x:AV} {v:Value} (hx:av g x v):ay.Fits C g U (rB x) ((do let r <- Instr.panic v; pure (Next.value r):Sem Next).run C.P w):=by
 unfold rB;split
 . have jG:=hx;simp only[av]at hx;obtain⟨u,rfl,hu⟩:=hx;simp only[Instr.panic,bO,run_goPanic,Result.andThen_halt];exact⟨_,w,rfl,h,jG⟩
 . trivial
theorem BD (h:aY g U w) {ev:Operand->Value} {o:Oper} {X:Operand} {x:AV} (ho:o.op=.nilCheck X) (hx:av g x (ev X)):ay.Fits C g U (aS x) ((execOp ev o).run C.P w):=by
 unfold aS;split
 . have jG:=hx;simp only[av]at hx;obtain⟨y,_,hv⟩:=hx;simp only[execOp,ho,hv,cg];rw[hv]at jG;exact aV h jG
 . have jG:=hx;simp only[av]at hx;obtain⟨_,_,_,hv,_⟩:=hx;simp only[execOp,ho,hv,cg];rw[hv]at jG;exact aV h jG
 . have jG:=hx;simp only[av]at hx;obtain⟨_,_,hv,_⟩:=hx;simp only[execOp,ho,hv,cg];rw[hv]at jG;exact aV h jG
 . trivial
def Ju (P:Program) (t:TypeId):Option Bool :=
 match P.underlying t with
 | some .string=>some true
 | some (.slice _)=>some false
 | _=>none
def EY (P:Program) (t:TypeId) (x:AV) (U:St):ay :=
 match Ju P t,x with
 | some true,.str s=>.val (.int .i64 s.length)
 | some false,.vec n _ _=>.val (.int .i64 n)
 | some false,.ms _ _ n _ _=>.val (.int .i64 n)
 | some false,.ag=>.val (.int .i64 0)
 | _,_=>.bad
theorem sg {P:Program} {t:TypeId} {b:Bool} (h:Ju P t=some b):(b=true/\P.underlying t=some .string)\/(b=false/\∃ e,P.underlying t=some (.slice e)):=by
 unfold Ju at h;split at h
 . rename_i e; simp at h; exact .inl ⟨h,e⟩
 . rename_i e' e; simp at h; exact .inr ⟨h,_,e⟩
 . cases h
theorem LB (h:aY g U w) {t ty:TypeId} {x:AV} {v:Value} (hx:av g x v):ay.Fits C g U (EY C.P t x U) ((do let r <- Builtin.len_ #[t] ty #[v]; pure (Next.value r):Sem Next).run C.P w):=by
 unfold EY;split
 . rename_i s EK;have hu:C.P.underlying t=some .string:=by rcases sg EK with ⟨_,h⟩|⟨h,_⟩<;>first|exact h|cases h
   simp only[av]at hx; subst hx;have hsz:(ByteArray.mk s.toArray).size=s.length:=by simp[ByteArray.size]
   simp[Builtin.len_,run_underlying hu,goInt,hsz];exact aV h (by simp only[av])
 . rename_i EK;obtain⟨e0,hu⟩:∃ e,C.P.underlying t=some (.slice e):=by rcases sg EK with ⟨h,_⟩|⟨_,h⟩<;>first|exact h|cases h
   simp only[av]at hx;obtain⟨_,_,_,_,rfl,_⟩:=hx;simp[Builtin.len_,run_underlying hu,goInt];exact aV h (by simp only[av])
 . rename_i EK;obtain⟨e0,hu⟩:∃ e,C.P.underlying t=some (.slice e):=by rcases sg EK with ⟨h,_⟩|⟨_,h⟩<;>first|exact h|cases h
   simp only[av]at hx;obtain⟨_,_,_,rfl,_⟩:=hx;simp[Builtin.len_,run_underlying hu,goInt];exact aV h (by simp only[av])
 . rename_i EK;obtain⟨e0,hu⟩:∃ e,C.P.underlying t=some (.slice e):=by rcases sg EK with ⟨h,_⟩|⟨_,h⟩<;>first|exact h|cases h
   simp only[av]at hx; subst hx;simp[Builtin.len_,run_underlying hu,goInt];exact aV h (by simp only[av])
 . trivial
def wK (x y:AV):ay :=
 match x,y with
 | .int k a,.int k' b=>if k=k' then .val (.int k (if b<a then b else a)) else .bad
 | _,_=>.bad
def wJ (x y:AV):ay :=
 match x,y with
 | .int k a,.int k' b=>if k=k' then .val (.int k (if b > a then b else a)) else .bad
 | _,_=>.bad
theorem LK (h:aY g U w) {ts:Array TypeId} {ty:TypeId} {x y:AV} {v u:Value} (hx:av g x v) (hy:av g y u):ay.Fits C g U (wJ x y) ((do let r <- Builtin.max_ ts ty #[v,u]; pure (Next.value r):Sem Next).run C.P w):=by
 unfold wJ;split
 . split
   . rename_i e; subst e;simp only[av]at hx hy; subst hx hy;simp[Builtin.max_,Builtin.max2];exact aV h (by simp only[av])
   . trivial
 . trivial
theorem LL (h:aY g U w) {ts:Array TypeId} {ty:TypeId} {x y:AV} {v u:Value} (hx:av g x v) (hy:av g y u):ay.Fits C g U (wK x y) ((do let r <- Builtin.min_ ts ty #[v,u]; pure (Next.value r):Sem Next).run C.P w):=by
 unfold wK;split
 . split
   . rename_i e; subst e;simp only[av]at hx hy; subst hx hy;simp[Builtin.min_,Builtin.min2];exact aV h (by simp only[av])
   . trivial
 . trivial
end
end Go.Rip
namespace Go.Rip
open Go.RowKit
section
variable {C:ck} {g:Gh} {U:St} {w:World}
def eS (place:Nat->Option (Nat×Nat)):List (Nat×AV)->List AV->(List AV->ay)->ay
 | [],z,k=>k z
 | (i,x)::rest,z,k=>match place i with
   | some (off,size)=>.cond (x.cA=true/\(au x).length=size/\off+size<=z.length) (eS place rest (ax z off (au x)) k)
   | none=>.bad
theorem wg (off:Nat):∀ (l:List Value) (j:Nat) (cs:Array Value),off+j+l.length<=cs.size ->
 ((l.zipIdx j).foldl (λ (cs:Array Value) (p:Value×Nat)=>cs.setIfInBounds (off+p.2) p.1) cs).toList=cs.toList.take (off+j)++l++cs.toList.drop (off+j+l.length)
 | [],j,cs,_=>by simp
 | v::l,j,cs,hle=>by
   simp only[List.zipIdx_cons,List.foldl_cons];simp only[lM]at hle;rw[wg off l (j+1) _ (by simp; omega)];have hs:=list_seg_step cs.toList (off+j) v l (by simpa using hle);rw[Array.toList_setIfInBounds];rw[show off+(j+1)=off+j+1 from rfl];exact hs
theorem rX {place:Nat->Option (Nat×Nat)} {k:List AV->ay} {kk:Array Value->Sem Value} {S:String}
 (hk:∀ (z:List AV) (cs:Array Value),aC g z cs.toList->(∀ u∈cs.toList,u.oneCell'=true)->ay.Fits C g U (k z) ((do let r <- kk cs; pure (Next.value r):Sem Next).run C.P w)) :
 ∀ (parts:List (Nat×AV)) (vs:List (Nat×Value)) (z:List AV) (cs:Array Value),vs.length=parts.length->(∀ (i:Nat) (p:Nat×AV) (q:Nat×Value),parts[i]?=some p->vs[i]?=some q->p.1=q.1/\av g p.2 q.2) ->
  aC g z cs.toList->(∀ u∈cs.toList,u.oneCell'=true) ->
  ay.Fits C g U (eS place parts z k) ((do let r <- (match Instr.fill place cs vs with|some zO=>kk zO|none=>stuck S); pure (Next.value r):Sem Next).run C.P w)
 | [],[],z,cs,_,_,hz,h1=>by
   simp only[eS,Instr.fill];exact hk z cs hz h1
 | [],_::_,_,_,h,_,_,_=>by simp at h
 | _::_,[],_,_,h,_,_,_=>by simp at h
 | (i,x)::parts,(j,v)::vs,z,cs,hl,hp,hz,h1=>by
   obtain⟨rfl,hx⟩:=hp 0 _ _ rfl rfl;dsimp only at hx ⊢;simp only[eS];cases pV:place i with
   | none=>trivial
   | some os =>
     obtain⟨off,size⟩:=os;rintro⟨a1,a2,a3⟩;obtain⟨zZ,yw⟩:=vV hx a1;have hlen:=zZ.length;have EM:=hz.length;have wy:v.cells.size=size:=by rw[<- qn,hlen,a2]
     have hcz:off+v.cells.size<=cs.size:=by rw[wy,<- qn,EM]; exact a3
     have e:(v.cells.zipIdx.foldl (λ (cs:Array Value) (p:Value×Nat)=>cs.setIfInBounds (off+p.2) p.1) cs).toList=cs.toList.take off++v.cells.toList++cs.toList.drop (off+v.cells.toList.length):=by
      rw[<- Array.foldl_toList,Array.toList_zipIdx];have:=wg off v.cells.toList 0 cs (by simpa using hcz);simpa using this
     have YL:(v.cells.size≠size||off+v.cells.size > cs.size)=false:=by simp[wy]; omega
     simp only[Instr.fill,pV];rw[if_neg (by rw[YL]; simp)];refine rX hk parts vs _ _ (by simpa using hl) (λ i p q h2 h3=>hp (i+1) p q (by simpa using h2) (by simpa using h3)) ?_ ?_
     . show aC g (ax z off (au x)) (v.cells.zipIdx.foldl (λ (cs:Array Value) (p:Value×Nat)=>cs.setIfInBounds (off+p.2) p.1) cs).toList;rw[e];unfold ax;rw[hlen];exact ((hz.take _).append zZ).append (hz.drop _)
     . show ∀ u∈(v.cells.zipIdx.foldl (λ (cs:Array Value) (p:Value×Nat)=>cs.setIfInBounds (off+p.2) p.1) cs).toList,u.oneCell'=true;rw[e];intro u hu;simp only[fN]at hu;rcases hu with (hu|hu)|hu
       . exact h1 u (List.mem_of_mem_take hu)
       . exact yw u hu
       . exact h1 u (List.mem_of_mem_drop hu)
def kn (C:ck) (ρ:Env) (parts:Array (Nat×Operand)):List (Nat×AV):=parts.toList.map λ p=>(p.1,ρ.ev C p.2)
def DW (P:Program) (t:TypeId) (parts:List (Nat×AV)):ay :=
 match x5 P t,nN P t with
 | some pl,some z=>eS (λ i=>pl[i]?) parts z λ z=>.val (.agg z)
 | none,some z=>match sI P t with
   | some (_,_,sz)=>eS (λ i=>some (i*sz,sz)) parts z λ z=>.val (.agg z)
   | none=>.bad
 | _,_=>.bad
theorem FV {P:Program} {t:TypeId} {pl:List (Nat×Nat)} (h:x5 P t=some pl):∃ fs:Array Field,P.underlying t=some (.struct fs)/\pl=fs.toList.map (λ f=>(f.offset,P.cellsOf f.type)) /\
 (fs.mapM (λ f=>do pure (f.offset,<- sizeOf f.type):Field->Sem (Nat×Nat))).run P w=.ok pl.toArray w:=by
 unfold x5 at h;split at h
 . rename_i fs hu;split at h
   . rename_i b0;simp only[fZ]at h;refine⟨fs,hu,h.symm,?_⟩;rw[Array.mapM_eq_mapM_toList];rw[Array.all_eq_true_iff_forall_mem]at b0;have key:∀ l:List Field,(∀ f∈l,(P.info? f.type).isSome=true)->(l.mapM (λ f=>do pure (f.offset,<- sizeOf f.type):Field->Sem (Nat×Nat))).run P w=.ok (l.map λ f=>(f.offset,P.cellsOf f.type)) w:=by
      intro l
      induction l with
      | nil=>intro _; simp
      | cons f l ih =>
        intro hf;obtain⟨i,hi⟩:=Option.isSome_iff_exists.1 (hf f (by simp));have ih':=ih λ x hx=>hf x (by simp[hx]);have hc:P.cellsOf f.type=i.size:=by simp[Program.cellsOf,hi]
        simp only[List.mapM_cons,bO,dC hi,bZ,cg,ih',dY,hc]
     have:=key fs.toList (λ f hf=>b0 f (by simpa using hf));simp only[Sem.run_map,this,bZ,h]
   . cases h
 . cases h
theorem Gj (h:aY g U w) {t:TypeId} {parts:List (Nat×AV)} {vs:Array (Nat×Value)} (hl:vs.size=parts.length) (hp:∀ (i:Nat) (p:Nat×AV) (q:Nat×Value),parts[i]?=some p->vs[i]?=some q->p.1=q.1/\av g p.2 q.2) :
 ay.Fits C g U (DW C.P t parts) ((do let r <- Instr.build t vs; pure (Next.value r):Sem Next).run C.P w):=by
 unfold DW;split
 . rename_i pl z hs hz;obtain⟨fs,hu,pV,fD⟩:=FV (w:=w) hs;obtain⟨i,zv,hi,rm,hm⟩:=lg hz;obtain⟨h1,h2⟩:=dB (g:=g) hm
   have key:=rX (C:=C) (g:=g) (U:=U) (w:=w) (place:=λ i=>pl.toArray[i]?) (k:=λ z=>.val (.agg z)) (kk:=λ cs=>pure (.agg cs)) (S := "build: no such field, or a part of the wrong size") (λ z cs hz h1=>by
    simp only[bO,cg,bZ];exact aV h (by simp only[av]; exact⟨cs.toList,by simp,h1,hz⟩)) parts vs.toList z zv.cells (by simpa using hl) (λ i p q h1 h2=>hp i p q h1 (by simpa using h2)) h1 h2
   have e:(λ i:Nat=>pl.toArray[i]?)=λ i=>pl[i]?:=by funext i; simp
   rw[<- e];simp only[Instr.build,bO,ff hi rm,bZ,run_underlying hu,fD];cases hf:Instr.fill (λ i:Nat=>pl.toArray[i]?) zv.cells vs.toList with
   | none=>simp only[hf,bO,run_stuck,Result.andThen_halt]at key ⊢; exact key
   | some zO=>simp only[hf,bO,cg,bZ]at key ⊢; exact key
 . rename_i z hs hz;split
   . rename_i n e sz ha;obtain⟨ie,hu,Re,hsz⟩:=rU ha;obtain⟨i,zv,hi,rm,hm⟩:=lg hz;obtain⟨h1,h2⟩:=dB (g:=g) hm
     have key:=rX (C:=C) (g:=g) (U:=U) (w:=w) (place:=λ i=>some (i*sz,sz)) (k:=λ z=>.val (.agg z)) (kk:=λ cs=>pure (.agg cs)) (S := "build: a part of the wrong size") (λ z cs hz h1=>by
      simp only[bO,cg,bZ];exact aV h (by simp only[av]; exact⟨cs.toList,by simp,h1,hz⟩)) parts vs.toList z zv.cells (by simpa using hl) (λ i p q h1 h2=>hp i p q h1 (by simpa using h2)) h1 h2
     simp only[Instr.build,bO,ff hi rm,bZ,run_underlying hu,dC Re,hsz];cases hf:Instr.fill (λ i:Nat=>some (i*sz,sz)) zv.cells vs.toList with
     | none=>simp only[hf,bO,run_stuck,Result.andThen_halt]at key ⊢; exact key
     | some zO=>simp only[hf,bO,cg,bZ]at key ⊢; exact key
   . trivial
 . trivial
end
end Go.Rip
namespace Go.Rip
open Go.RowKit
section
variable {C:ck} {g:Gh} {U:St} {w:World}
def bN:Nat->List AV->List AV
 | 0,_=>[]
 | n+1,z=>z++bN n z
theorem jC (z:List AV):∀ n,(bN n z).length=n*z.length
 | 0=>by simp[bN]
 | n+1=>by simp[bN,jC z n,Nat.add_mul]; omega
theorem qJ {z:List AV} {zv:Array Value} (hz:aC g z zv.toList):∀ n,aC g (bN n z) ((Array.range (n*zv.size)).map (zv[·%zv.size]!)).toList:=λ n=>by
 have hl:z.length=zv.size:=by rw[<- hz.length]; simp
 refine aC.Ax (by simp[jC,hl]) λ i x v hx hv=>?_;have key:∀ n i x,(bN n z)[i]?=some x->z[i%zv.size]?=some x:=λ n=>by
  induction n with
  | zero=>intro i x hx; simp[bN]at hx
  | succ n ih =>
    intro i x hx;simp only[bN]at hx
    by_cases hi:i<z.length
    . rw[rF hi]at hx;rw[Nat.mod_eq_of_lt (by omega)]; exact hx
    . rw[List.getElem?_append_right (by omega)]at hx;have:=ih _ _ hx;rw[hl,<- Nat.mod_eq_sub_mod (by omega)]at this;exact this
 have jG:=key n i x hx;obtain⟨u,hu,hr⟩:=hz.get jG;simp only[Array.toList_map,jB,nr]at hv;obtain⟨j,hj,rfl⟩:=hv;have Hq:j=i:=by
  rw[jm,Array.getElem?_range]at hj;split at hj
  . simp at hj; exact hj.symm
  . cases hj
 subst Hq;have aL:j%zv.size<zv.size:=by
  have:=(dp.1 hu).1;simpa using this
 rw[getElem!_pos zv _ aL];rw[jm,getElem?_pos zv _ aL]at hu;cases hu;exact hr
def pC (P:Program) (t:TypeId) (n:Nat) (mu:Bool) (parts:List (Nat×AV)):ay :=
 match dP P t with
 | some (e,sz)=>match nN P e with
   | some z=>.cond (n*sz<=16777216) (eS (λ i=>some (i*sz,sz)) parts (bN n z) λ cs=>.cond (cs.length=n*sz) (if mu then .mJ n sz e none cs else .val (.vec n .full cs)))
   | none=>.bad
 | none=>.bad
theorem yX (h:aY g U w) {t:TypeId} {n:Nat} {mu:Bool} {parts:List (Nat×AV)} {vs:Array (Nat×Value)} (hl:vs.size=parts.length) (hp:∀ (i:Nat) (p:Nat×AV) (q:Nat×Value),parts[i]?=some p->vs[i]?=some q->p.1=q.1/\av g p.2 q.2) :
 ay.Fits C g U (pC C.P t n mu parts) ((do let r <- Instr.buildSlice t n vs; pure (Next.value r):Sem Next).run C.P w):=by
 unfold pC;split
 . rename_i e sz hs;split
   . rename_i z hz;intro hn;obtain⟨i,zv,hu,hi,mb,tC,rfl,qk,_,h1⟩:=gb hs;obtain⟨i',XS,iv,rm,hm⟩:=lg hz;rw[hi]at iv; cases iv;rw[mb]at rm; cases rm;obtain⟨h1,h2⟩:=dB (g:=g) hm;have Pq:¬ (n*i.size > 2 ^ 24):=by omega
     have Wr:=qJ (g:=g) h1 n;have key:=rX (C:=C) (g:=g) (U:=U) (w:=w) (place:=λ j=>some (j*i.size,i.size)) (k:=λ cs=>.cond (cs.length=n*i.size) (if mu then .mJ n i.size e none cs else .val (.vec n .full cs)))
      (kk:=λ cs=>do pure (.slice (some (<- newRow e cs)) n n)) (S := "buildSlice: a part of the wrong size") (λ z cs hz zZ=>by
      intro hlen;have tu:cs.size=n*i.size:=by rw[<- qn,hz.length,hlen]
      have Cj:n<=maxLen:=by
       have:n<=n*i.size:=Nat.le_mul_of_pos_right _ qk;unfold maxLen; omega
      simp only[newRow,bO,cg,run_newObj,bZ];split
      . have:=oD (C:=C) (del:=none) (e:=e) (sz:=i.size) (n:=n) (c:=n) h (vs:=cs.toList) (rest:=[]) hz zZ (by simp) (by simp[tu]) (cN _) Cj;simpa using this
      . obtain⟨g',hle,lJ,_,_,dK⟩:=h.LP e cs cs.toList [] (by simp) zZ;refine⟨_,_,g',.inl rfl,hle,dK,?_⟩;simp only[av];exact⟨w.heap.size,0,n,cs.toList,rfl,cN _,Cj,rfl,lJ,hz.mono hle⟩) parts vs.toList (bN n z) ((Array.range (n*zv.cells.size)).map (zv.cells[·%zv.cells.size]!)) (by simpa using hl) (λ i p q h1 h2=>hp i p q h1 (by simpa using h2)) Wr (by
        intro u hu;simp only[Array.toList_map,List.mem_map]at hu;obtain⟨j,_,rfl⟩:=hu;have aL:j%zv.cells.size<zv.cells.size:=Nat.mod_lt _ (by omega);rw[getElem!_pos zv.cells _ aL];exact h2 _ (by simp))
     simp only[Instr.buildSlice,bO,run_underlying hu,dC hi,bZ,if_neg Pq,dO,ff hi mb,cg]
     by_cases h0:n*i.size=0
     . have Ae:n=0:=by
        rcases Nat.mul_eq_zero.1 h0 with h|h
        . exact h
        . omega
       subst Ae;simp only[Nat.zero_mul,if_true,bZ]at key ⊢;have e1:(Array.range 0).map ((#[]:Array Value)[·%(#[]:Array Value).size]!)=(Array.range 0).map (zv.cells[·%zv.cells.size]!):=by simp
       rw[e1];cases hf:Instr.fill (λ j=>some (j*i.size,i.size)) ((Array.range 0).map (zv.cells[·%zv.cells.size]!)) vs.toList with
       | none=>simp only[hf,bO,run_stuck,Result.andThen_halt]at key ⊢; exact key
       | some zO=>simp only[hf,bO,cg,bZ]at key ⊢; exact key
     . simp only[if_neg h0,bZ];rw[tC]at key ⊢;cases hf:Instr.fill (λ j=>some (j*i.size,i.size)) ((Array.range (n*i.size)).map (zv.cells[·%i.size]!)) vs.toList with
       | none=>simp only[hf,bO,run_stuck,Result.andThen_halt]at key ⊢; exact key
       | some zO=>simp only[hf,bO,cg,bZ]at key ⊢; exact key
   . trivial
 . trivial
def oK (P:Program) (t:TypeId):Option (FK×TypeId) :=
 match P.underlying t with
 | some (.map k e)=>match P.underlying k with
   | some (.int _)=>some (.i,e)
   | some .string=>some (.s,e)
   | _=>none
 | _=>none
def fE:FK->AV->AV->Option Bool
 | .i,.int k a,.int k' b=>if k=k' then some (a==b) else none
 | .s,.str a,.str b=>some (a==b)
 | _,_,_=>none
def oI:FK->AV->Bool
 | .i,.int _ _=>true
 | .s,.str _=>true
 | _,_=>false
def j0 (fk:FK) (k:AV):List AV->Nat->Option (Option Nat)
 | [],_=>some none
 | y::ys,i=>match fE fk k y with
   | none=>none
   | some b=>if b=true then some (some i) else j0 fk k ys (i+1)
def fp (k v:AV):List AV->List AV->List AV×List AV
 | [],_=>([k],[v])
 | y::ys,ws=>if gM k y=true then (k::y::ys,v::ws) else
   match ws with
   | []=>([k],[v])
   | x::xs=>(y::(fp k v ys xs).1,x::(fp k v ys xs).2)
def oL (P:Program) (t:TypeId) (m k v:AV) (U:St):ay :=
 match oK P t,m with
 | some (fk,_),.mp id=>match U.mp id with
   | some (ks,vs)=>match j0 fk k ks 0,oI fk k with
     | some none,true=>.kI (.aQ []) id (.mp (fp k v ks vs).1 (fp k v ks vs).2)
     | some (some i),true=>.kI (.aQ []) id (.mp ks (vs.set i v))
     | _,_=>.bad
   | none=>.bad
 | _,_=>.bad
def kS (U:St):AV->Option (List AV×List AV)
 | .mp id=>U.mp id
 | .eD ks vs=>some (ks,vs)
 | .ji=>some ([],[])
 | _=>none
def kX (fk:FK) (k:AV) (wa:AV) (ok:Bool):List AV->List AV->ay
 | y::ys,v::vs=>match fE fk k y with
   | none=>.bad
   | some b=>if b=true then .val (if ok then .aQ [v,.bool true] else v) else kX fk k wa ok ys vs
 | _,_=>.val (if ok then .aQ [wa,.bool false] else wa)
def zeroV (P:Program) (t:TypeId):Option AV:=((P.info? t).bind (·.zero)).map B8
def tJ (P:Program) (t:TypeId) (m k:AV) (ok:Bool) (U:St):ay :=
 match oK P t,kS U m with
 | some (fk,e),some (ks,vs)=>match zeroV P e,oI fk k with
   | some z,true=>kX fk k z ok ks vs
   | _,_=>.bad
 | _,_=>.bad
theorem wI {P:Program} {t e:TypeId} {fk:FK} (h:oK P t=some (fk,e)):∃ k,P.underlying t=some (.map k e)/\((fk=.i/\∃ q,P.underlying k=some (.int q))\/(fk=.s/\P.underlying k=some .string)):=by
 unfold oK at h;split at h
 . rename_i k e' hu;split at h
   . rename_i q hq;simp only[fZ,fO]at h;obtain⟨rfl,rfl⟩:=h;exact⟨k,hu,.inl ⟨rfl,q,hq⟩⟩
   . rename_i hq;simp only[fZ,fO]at h;obtain⟨rfl,rfl⟩:=h;exact⟨k,hu,.inr ⟨rfl,hq⟩⟩
   . cases h
 . cases h
theorem qC {P:Program} {k:TypeId} {fk:FK} {d:TypeDesc} (hd:P.underlying k=some d) (hk:(fk=.i/\∃ q,d=.int q)\/(fk=.s/\d=.string)) {x y:AV} {u v:Value} {b:Bool} (hx:av g x u) (hy:av g y v) (h:fE fk x y=some b) :
 Instr.sameNow d u v=some b:=by
 rcases hk with ⟨rfl,q,rfl⟩|⟨rfl,rfl⟩<;>cases x<;>cases y<;>simp only[fE,reduceCtorEq]at h
 . split at h
   . rename_i e; subst e;simp only[av]at hx hy; subst hx hy;simp at h; subst h;simp[Instr.sameNow]
   . cases h
 . simp only[av]at hx hy; subst hx hy;simp only[fZ]at h; subst h;simp only[Instr.sameNow,beq_toListBytes,ByteArray.toList_eq,List.toList_toArray]
theorem findNow_spec {d:TypeDesc} {u:Value}:∀ (es:List MapEntry) (i:Nat),(∀ e∈es,∃ b,Instr.sameNow d u e.key=some b) ->
 ((∀ e∈es,Instr.sameNow d u e.key=some false)/\Instr.findNow d u es i=some none) \/
 (∃ j e,es[j]?=some e/\Instr.sameNow d u e.key=some true/\Instr.findNow d u es i=some (some (i+j,e.val)))
 | [],i,_=>.inl ⟨by simp,by simp[Instr.findNow]⟩
 | e::es,i,h=>by
   obtain⟨b,hb⟩:=h e (by simp);cases b
   . rcases findNow_spec es (i+1) (λ x hx=>h x (by simp[hx])) with ⟨h1,h2⟩|⟨j,e',h1,h2,h3⟩
     . refine .inl ⟨λ x hx=>?_,by simp[Instr.findNow,hb,h2]⟩;rcases fe.1 hx with rfl|hx
       . exact hb
       . exact h1 x hx
     . exact .inr ⟨j+1,e',by simpa using h1,h2,by simp[Instr.findNow,hb,h3]; omega⟩
   . exact .inr ⟨0,e,by simp,hb,by simp[Instr.findNow,hb]⟩
theorem sQ {fk:FK} {k y:AV} (h:fE fk k y=some true):k=y:=by
 cases fk<;>cases k<;>cases y<;>simp only[fE,reduceCtorEq]at h
 . split at h
   . rename_i e; subst e; simp at h; rw[h]
   . cases h
 . simp at h; rw[h]
theorem Jq (k:AV):gM k k=false:=by
 cases k<;>simp[gM]
theorem GC {a b c:AV} (h:gM a b=true) (h':gM b c=true):gM a c=true:=by
 cases a<;>cases b<;>simp only[gM,bQ]at h<;>cases c<;>simp only[gM,bQ,bV,dJ]at h h' ⊢
 . exact⟨h.1.trans h'.1,by omega⟩
 . exact List.lt_trans h h'
theorem PA {fk:FK} {k y:AV} (h:fE fk k y=some false):gM k y=true\/gM y k=true:=by
 cases fk<;>cases k<;>cases y<;>simp only[fE,reduceCtorEq]at h
 . split at h
   . rename_i e; subst e; simp at h; simp[gM]; omega
   . cases h
 . simp at h;simp only[gM,dJ];rcases Classical.em ((_:List UInt8)<_) with hl|hl
   . exact .inl hl
   . refine .inr ?_;rcases Classical.em ((_:List UInt8)<_) with q9|q9
     . exact q9
     . exact absurd (List.le_antisymm (List.not_lt.1 q9) (List.not_lt.1 hl)) h
theorem Aj {fk:FK} {k y z:AV} (h:fE fk k y=some true) (hz:gM y z=true\/gM z y=true):∃ b,fE fk k z=some b:=by
 have:=sQ h;subst this;cases fk<;>cases k<;>cases z<;>simp[fE,gM]at h hz ⊢
 rcases hz with ⟨e,_⟩|⟨e,_⟩
 . exact e
 . exact e.symm
theorem ur {fk:FK} {k:AV}:∀ {ks:List AV} {s:Nat} {r:Option Nat},j0 fk k ks s=some r ->
 (r=none/\∀ y∈ks,fE fk k y=some false)\/(∃ i,r=some (s+i)/\∃ y,ks[i]?=some y/\fE fk k y=some true)
 | [],s,r,h=>by simp only[j0,fZ]at h; exact .inl ⟨h.symm,by simp⟩
 | y::ys,s,r,h=>by
   simp only[j0]at h;split at h
   . cases h
   . rename_i b hb;cases b
     . simp only[bQ,if_false]at h;rcases ur h with ⟨h1,h2⟩|⟨i,h1,z,h2,h3⟩
       . refine .inl ⟨h1,λ z hz=>?_⟩;rcases fe.1 hz with rfl|hz
         . exact hb
         . exact h2 z hz
       . exact .inr ⟨i+1,by rw[h1]; congr 1; omega,z,by simpa using h2,h3⟩
     . simp only[if_true,fZ]at h;exact .inr ⟨0,by rw[<- h]; rfl,y,by simp,hb⟩
theorem JX {ks:List AV} (h:nx ks) {i j:Nat} {y:AV} (hi:ks[i]?=some y) (hj:ks[j]?=some y):i=j:=by
 have key:∀ i j,i<j->ks[i]?=some y->ks[j]?=some y->False:=λ i j dV hi hj=>by
  obtain⟨h1,h2⟩:=dp.1 hi;obtain⟨h3,h4⟩:=dp.1 hj;have:=List.pairwise_iff_getElem.1 h i j h1 h3 dV;rw[h2,h4,Jq]at this; cases this
 rcases Nat.lt_trichotomy i j with h|h|h
 . exact (key i j h hi hj).elim
 . exact h
 . exact (key j i h hj hi).elim
theorem y3 {P:Program} {kt:TypeId} {fk:FK} {d:TypeDesc} (hd:P.underlying kt=some d) (hk:(fk=.i/\∃ q,d=.int q)\/(fk=.s/\d=.string)) {x:AV} {u:Value} (hx:av g x u)
 {ks:List AV} {l es:List MapEntry} (hp:l.Perm es) (hs:nx ks) (hr:aC g ks (l.map (·.key))) {r:Option Nat} (h:j0 fk x ks 0=some r) :
 (r=none/\(∀ y∈ks,fE fk x y=some false)/\∀ i,Instr.findNow d u es i=some none) \/
 (∃ i j e,r=some i/\ks[i]?=some x/\l[i]?=some e/\es[j]?=some e/\av g x e.key/\∀ s,Instr.findNow d u es s=some (some (s+j,e.val))):=by
 have mem:∀ e∈es,∃ i y,ks[i]?=some y/\l[i]?=some e/\av g y e.key:=λ e he=>by
  obtain⟨i,hi⟩:=List.getElem?_of_mem (hp.mem_iff.2 he);have aL:i<ks.length:=by
   have h1:=(dp.1 hi).1;have:=hr.length;simp at this; omega
  obtain⟨v,hv,Lf⟩:=hr.get (i:=i) (x:=ks[i]) (nq aL);rw[jB,hi]at hv;simp at hv;subst hv;exact⟨i,ks[i],nq aL,hi,Lf⟩
 rcases ur h with ⟨rfl,h1⟩|⟨i,rfl,y,h1,h2⟩
 . refine .inl ⟨rfl,h1,λ s=>?_⟩;have hf:∀ e∈es,Instr.sameNow d u e.key=some false:=λ e he=>by
    obtain⟨i,y,hy,_,Lh⟩:=mem e he;exact qC (P:=P) hd hk hx Lh (h1 y (gA hy))
   rcases findNow_spec es s (λ e he=>⟨_,hf e he⟩) with ⟨_,h2⟩|⟨j,e,q1,q2,_⟩
   . exact h2
   . rw[hf e (gA q1)]at q2; cases q2
 . have yC:=sQ h2;subst yC;have all:∀ z∈ks,∃ b,fE fk x z=some b:=λ z hz=>by
    obtain⟨j,hj⟩:=List.getElem?_of_mem hz;rcases Nat.lt_trichotomy i j with dV|dV|dV
    . obtain⟨a1,a2⟩:=dp.1 h1;obtain⟨a3,a4⟩:=dp.1 hj;have:=List.pairwise_iff_getElem.1 hs i j a1 a3 dV;rw[a2,a4]at this;exact Aj h2 (.inl this)
    . subst dV; rw[h1]at hj; cases hj; exact⟨_,h2⟩
    . obtain⟨a1,a2⟩:=dp.1 h1;obtain⟨a3,a4⟩:=dp.1 hj;have:=List.pairwise_iff_getElem.1 hs j i a3 a1 dV;rw[a2,a4]at this;exact Aj h2 (.inr this)
   have same:∀ e∈es,∃ b,Instr.sameNow d u e.key=some b:=λ e he=>by
    obtain⟨i,y,hy,_,Lh⟩:=mem e he;obtain⟨b,hb⟩:=all y (gA hy);exact⟨b,qC (P:=P) hd hk hx Lh hb⟩
   have Ev:∃ e0,l[i]?=some e0/\av g x e0.key:=by
    obtain⟨v,hv,Lf⟩:=hr.get h1;rw[jB,nr]at hv;obtain⟨e0,h3,rfl⟩:=hv;exact⟨e0,h3,Lf⟩
   obtain⟨e0,Ce,VD⟩:=Ev;have Zx:Instr.sameNow d u e0.key=some true:=qC (P:=P) hd hk hx VD h2;have h0m:e0∈es:=hp.mem_iff.1 (gA Ce);have pick:∀ s,∃ j,es[j]?=some e0/\Instr.findNow d u es s=some (some (s+j,e0.val)):=λ s=>by
    rcases findNow_spec es s same with ⟨q1,_⟩|⟨j,e,q1,q2,q3⟩
    . rw[q1 e0 h0m]at Zx; cases Zx
    . obtain⟨i',y,hy,sa,Lh⟩:=mem e (gA q1);obtain⟨b,hb⟩:=all y (gA hy);have HB:=qC (P:=P) hd hk hx Lh hb;rw[q2]at HB;simp only[fZ]at HB;subst HB;have yC:=sQ hb;subst yC;have hii:=JX hs h1 hy;subst hii;rw[Ce]at sa; cases sa;exact⟨j,q1,q3⟩
   obtain⟨j,hj,hjf⟩:=pick 0;refine .inr ⟨i,j,e0,by rw[cq],h1,Ce,hj,VD,λ s=>?_⟩;have shift:∀ (es:List MapEntry) (a b:Nat) j v,Instr.findNow d u es a=some (some (a+j,v))->Instr.findNow d u es b=some (some (b+j,v)):=λ es=>by
    induction es with
    | nil=>intro a b j v h; simp[Instr.findNow]at h
    | cons e es ih =>
      intro a b j v h;simp only[Instr.findNow]at h ⊢;cases Lb:Instr.sameNow d u e.key with
      | none=>rw[Lb]at h; cases h
      | some t =>
        rw[Lb]at h;cases t
        . dsimp only at h ⊢;have hle:∀ (es:List MapEntry) (a:Nat) r v,Instr.findNow d u es a=some (some (r,v))->a<=r:=λ es=>by
           induction es with
           | nil=>intro a r v h; simp[Instr.findNow]at h
           | cons e es ih =>
             intro a r v h;simp only[Instr.findNow]at h;cases Lb:Instr.sameNow d u e.key with
             | none=>rw[Lb]at h; cases h
             | some t =>
               rw[Lb]at h;cases t
               . have:=ih _ _ _ h; omega
               . simp at h; omega
          have h1:=hle _ _ _ _ h;have:=ih (a+1) (b+1) (j-1) v (by rw[h]; congr 3; omega);rw[this]; congr 3; omega
        . simp at h ⊢; obtain⟨h1,h2⟩:=h; exact⟨by omega,h2⟩
   exact shift es 0 s j _ hjf
theorem PS {α:Type} {l m:List α} (h:l.Perm m) {i j:Nat} {e:α} (hi:l[i]?=some e) (hj:m[j]?=some e) (e':α):(l.set i e').Perm (m.set j e'):=by
 obtain⟨h1,h2⟩:=dp.1 hi;obtain⟨h3,h4⟩:=dp.1 hj;have el:l=l.take i++e::l.drop (i+1):=by
  conv=>lhs; rw[<- List.take_append_drop i l,iq h1,h2]
 have em:m=m.take j++e::m.drop (j+1):=by
  conv=>lhs; rw[<- List.take_append_drop j m,iq h3,h4]
 rw[List.set_eq_take_append_cons_drop,if_pos h1,List.set_eq_take_append_cons_drop,if_pos h3];have hp:(l.take i++e::l.drop (i+1)).Perm (m.take j++e::m.drop (j+1)):=by rw[<- el,<- em]; exact h
 have h5:=(List.perm_middle.symm.trans hp).trans List.perm_middle;have h6:=List.Perm.cons_inv h5;exact (List.perm_middle.trans (h6.cons e')).trans List.perm_middle.symm
theorem run_checkKey {P:Program} {k:TypeId} {d:TypeDesc} {em:Bool} (hd:P.underlying k=some d) (hk:(∃ q,d=.int q)\/d=.string) (n:Nat) (v:Value):(Instr.checkKey em (n+1) k v).run P w=.ok () w:=by
 rcases hk with ⟨q,rfl⟩|rfl<;>simp[Instr.checkKey,run_underlying hd]
theorem aC.set:∀ {l:List AV} {vs:List Value} {x:AV} {u:Value} (i:Nat),aC g l vs->av g x u->aC g (l.set i x) (vs.set i u)
 | [],_,_,_,_,h,_=>by simp only[aC]at h; subst h; simp[aC]
 | y::ys,_,x,u,0,h,hx=>by
   simp only[aC]at h;obtain⟨v,vs,rfl,h1,h2⟩:=h;simp only[List.set_cons_zero,aC];exact⟨u,vs,rfl,hx,h2⟩
 | y::ys,_,x,u,i+1,h,hx=>by
   simp only[aC]at h;obtain⟨v,vs,rfl,h1,h2⟩:=h;simp only[List.set_cons_succ,aC];exact⟨v,_,rfl,h1,aC.set i h2 hx⟩
theorem ET {k v:AV} {e:MapEntry} (hk:av g k e.key) (hv:av g v e.val):∀ (ks vs:List AV) (l:List MapEntry),aC g ks (l.map (·.key))->aC g vs (l.map (·.val)) ->
 ∃ l':List MapEntry,l'.Perm (e::l)/\aC g (fp k v ks vs).1 (l'.map (·.key))/\aC g (fp k v ks vs).2 (l'.map (·.val))
 | [],vs,l,h1,h2=>by
   simp only[aC,List.map_eq_nil_iff]at h1;subst h1;exact⟨[e],List.Perm.refl _,by simp only[fp,dY,lO,aC]; exact⟨_,_,rfl,hk,rfl⟩,by simp only[fp,dY,lO,aC]; exact⟨_,_,rfl,hv,rfl⟩⟩
 | y::ks,vs,[],h1,h2=>by simp[aC]at h1
 | y::ks,[],f::l,h1,h2=>by simp[aC]at h2
 | y::ks,x::vs,f::l,h1,h2=>by
   simp only[fp]
   by_cases aL:gM k y=true
   . rw[if_pos aL];exact⟨e::f::l,List.Perm.refl _,by rw[dY]; simp only[aC]at h1 ⊢; exact⟨_,_,rfl,hk,h1⟩,by rw[dY]; simp only[aC]at h2 ⊢; exact⟨_,_,rfl,hv,h2⟩⟩
   . rw[if_neg aL];simp only[aC,dY,List.cons.injEq]at h1 h2;obtain⟨_,_,⟨rfl,rfl⟩,hy,h1⟩:=h1;obtain⟨_,_,⟨rfl,rfl⟩,hx,h2⟩:=h2;obtain⟨l',h3,h4,h5⟩:=ET hk hv ks vs l h1 h2;exact⟨f::l',((h3.cons f).trans (List.Perm.swap e f l)),by simp only[dY,aC]; exact⟨_,_,rfl,hy,h4⟩,by simp only[dY,aC]; exact⟨_,_,rfl,hx,h5⟩⟩
theorem uD {k v:AV}:∀ (ks vs:List AV) (z:AV),z∈(fp k v ks vs).1->z=k\/z∈ks
 | [],vs,z,h=>by simp[fp]at h; exact .inl h
 | y::ks,vs,z,h=>by
   simp only[fp]at h;split at h
   . simpa using h
   . split at h
     . simp at h; exact .inl h
     . rename_i x xs;simp only[fe]at h ⊢;rcases h with h|h
       . exact .inr (.inl h)
       . rcases uD ks xs z h with h|h
         . exact .inl h
         . exact .inr (.inr h)
theorem yE {k v:AV}:∀ (ks vs:List AV),nx ks->(∀ y∈ks,gM k y=true\/gM y k=true)->nx (fp k v ks vs).1
 | [],vs,h1,h2=>by simp[fp,nx]
 | y::ks,vs,h1,h2=>by
   unfold nx at h1 ⊢;rw[List.pairwise_cons]at h1;simp only[fp];split
   . rename_i aL;rw[List.pairwise_cons,List.pairwise_cons];refine⟨λ z hz=>?_,h1⟩;rcases fe.1 hz with rfl|hz
     . exact aL
     . exact GC aL (h1.1 z hz)
   . rename_i aL;split
     . simp
     . rename_i x xs;rw[List.pairwise_cons];refine⟨λ z hz=>?_,yE ks xs h1.2 λ z hz=>h2 z (by simp[hz])⟩;rcases uD ks xs z hz with rfl|hz
       . rcases h2 y (by simp) with h|h
         . exact absurd h aL
         . exact h
       . exact h1.1 z hz
theorem iZ.push {es:Array MapEntry} {clock:Nat} (h:iZ es clock) (k v:Value):iZ (es.push ⟨k,v,clock⟩) (clock+1):=by
 obtain⟨h1,h2⟩:=h;refine⟨?_,λ e he=>?_⟩
 . simp only[Array.toList_push,List.map_append,dY,lO];rw[List.nodup_append];refine⟨h1,by simp,λ a ha b hb=>?_⟩;simp at hb;subst hb;obtain⟨e,he,rfl⟩:=List.mem_map.1 ha;exact Nat.ne_of_lt (h2 e he)
 . simp only[Array.toList_push,fN,lN]at he;rcases he with he|rfl
   . have:=h2 e he; omega
   . simp
theorem yi {es:Array MapEntry} {j:Nat} {e:MapEntry} (hj:es.toList[j]?=some e) (f:MapEntry->MapEntry):(es.modify j f).toList=es.toList.set j (f e):=by
 apply List.ext_getElem?;intro i;simp only[Array.toList_modify,List.getElem?_modify,List.getElem?_set]
 by_cases dV:j=i
 . subst dV;have aL:=(dp.1 hj).1;simp only[if_true,hj,if_pos aL]; rfl
 . simp only[if_neg dV];cases es.toList[i]?<;>rfl
theorem iZ.modify {es tj:Array MapEntry} {clock:Nat} (h:iZ es clock) {j:Nat} {e e':MapEntry} (hj:es.toList[j]?=some e) (hb:e'.born=e.born) (he:tj.toList=es.toList.set j e'):iZ tj clock:=by
 have hm:tj.toList.map (·.born)=es.toList.map (·.born):=by
  rw[he,List.map_set,hb];apply List.ext_getElem?;intro i;rw[List.getElem?_set];split
  . rename_i dV;subst dV;rw[jB,hj];have aL:=(dp.1 hj).1;simp at aL ⊢; exact aL
  . rfl
 refine⟨by rw[hm]; exact h.1,λ x hx=>?_⟩;have:x.born∈tj.toList.map (·.born):=List.mem_map_of_mem hx;rw[hm]at this;obtain⟨y,hy,hy2⟩:=List.mem_map.1 this;rw[<- hy2]; exact h.2 y hy
theorem so (h:aY g U w) {t:TypeId} {m k x:AV} {vm vk vx:Value} (hm:av g m vm) (hk:av g k vk) (hx:av g x vx) :
 ay.Fits C g U (oL C.P t m k x U) ((do Instr.mapUpdate t vm vk vx; pure Next.skip:Sem Next).run C.P w):=by
 unfold oL;split
 . rename_i fk e id ht;split
   . rename_i ks vs Ey;obtain⟨kt,hu,VS⟩:=wI ht;obtain⟨d,hd,Er⟩:∃ d,C.P.underlying kt=some d/\((fk=.i/\∃ q,d=.int q)\/(fk=.s/\d=.string)):=by
      rcases VS with ⟨rfl,q,hq⟩|⟨rfl,hq⟩
      . exact⟨_,hq,.inl ⟨rfl,q,rfl⟩⟩
      . exact⟨_,hq,.inr ⟨rfl,rfl⟩⟩
     have Po:(∃ q,d=.int q)\/d=.string:=Er.imp (·.2) (·.2);simp only[av]at hm;obtain⟨r,hr,rfl⟩:=hm;obtain⟨r',es,clock,q1,q2,q3,qb,⟨l,q4,q5,q6,q7⟩,q8⟩:=h.mp id _ Ey;rw[hr]at q1; cases q1;have qi:(getObj r).run C.P w=.ok (.map es clock) w:=by simp[getObj,Sem.run,q3]
     have KU:=run_checkKey (P:=C.P) (w:=w) (em:=false) hd Po 9999 vk;have Bu:∀ o,(setObj r o).run C.P w=.ok () { w with heap:=w.heap.setIfInBounds r o }:=λ o=>by simp[setObj,Sem.run,q3]
     split
     . rename_i hf Hs;rcases y3 (P:=C.P) hd Er hk q4 q5 q6 hf with ⟨_,ha,hn⟩|⟨i,_,_,he,_⟩
       . simp only[Instr.mapUpdate,bO,run_underlying hu,bZ,qi,KU,Instr.findKey,run_underlying hd,hn,cg,Bu];obtain⟨l',p1,p2,p3⟩:=ET (e:=⟨vk,vx,clock⟩) hk hx ks vs l q6 q7;refine⟨undef,_,g,.inr ⟨rfl,rfl⟩,Gh.Le.refl g,h.Mp Ey (kv':=fp k x ks vs) hr q3 ⟨l',?_,?_,p2,p3⟩ (qb.push vk vx),by simp only[av]; exact⟨[],rfl,by simp[aC]⟩⟩
         . rw[Array.toList_push];exact (p1.trans (q4.cons _)).trans (List.perm_append_singleton _ _).symm
         . exact yE ks vs q5 λ y hy=>PA (ha y hy)
       . cases he
     . rename_i i hf Hs;rcases y3 (P:=C.P) hd Er hk q4 q5 q6 hf with ⟨he,_⟩|⟨i',j,e,he,VR,Ev,KV,Ra,hn⟩
       . cases he
       . cases he;have Ae:=hn 0;rw[cq]at Ae;have aL:j<es.size:=by
          have:=(dp.1 KV).1;simpa using this
         have aaD:es[j]?=some e:=by rw[<- jm]; exact KV
         have Dt:Instr.sameBits 10000 e.key vk=true:=by
          rcases Er with ⟨rfl,_⟩|⟨rfl,_⟩<;>cases k<;>simp only[oI,bQ]at Hs
          . simp only[av]at hk Ra; rw[hk,Ra]; simp[Instr.sameBits]
          . simp only[av]at hk Ra; rw[hk,Ra]; simp[Instr.sameBits,beq_toListBytes]
         have HB:(Instr.keyThatStays e.key vk).run C.P w=.ok vk w:=by simp[Instr.keyThatStays,Dt]
         have aaJ:((es[j]?).map (·.key)).getD vk=e.key:=by rw[aaD]; rfl
         simp only[Instr.mapUpdate,bO,run_underlying hu,bZ,qi,KU,Instr.findKey,run_underlying hd,Ae,cg,Bu,aaJ,HB];have VZ:=yi KV (λ e=>{ e with key:=vk,val:=vx })
         refine⟨undef,_,g,.inr ⟨rfl,rfl⟩,Gh.Le.refl g,h.Mp Ey (kv':=(ks,vs.set i x)) hr q3 ⟨l.set i { e with key:=vk,val:=vx },?_,q5,?_,?_⟩ (qb.modify (e':={ e with key:=vk,val:=vx }) KV rfl VZ),by simp only[av]; exact⟨[],rfl,by simp[aC]⟩⟩
         . rw[VZ]; exact PS q4 Ev KV _
         . rw[List.map_set];have:=q6.set i hk;have e1:ks.set i k=ks:=by
            apply List.ext_getElem?;intro a;rw[List.getElem?_set];split
            . rename_i ha; subst ha;split
              . exact VR.symm
              . rename_i hn; exact absurd (dp.1 VR).1 hn
            . rfl
           rw[e1]at this; exact this
         . rw[List.map_set]; exact q7.set i hx
     . trivial
   . trivial
 . trivial
theorem Ao {fk:FK} {k z:AV} {ok:Bool}:∀ (ks vs:List AV) (s:Nat),ks.length=vs.length->kX fk k z ok ks vs=(match j0 fk k ks s with
 | none=>.bad
 | some none=>.val (if ok then .aQ [z,.bool false] else z)
 | some (some i)=>.val (if ok then .aQ [vs.getD (i-s) z,.bool true] else vs.getD (i-s) z))
 | [],[],s,_=>by simp[kX,j0]
 | [],_::_,s,h=>by simp at h
 | _::_,[],s,h=>by simp at h
 | y::ks,v::vs,s,h=>by
   simp only[kX,j0];cases hb:fE fk k y with
   | none=>rfl
   | some b =>
     cases b
     . simp only[bQ,if_false];rw[Ao ks vs (s+1) (by simpa using h)];cases hf:j0 fk k ks (s+1) with
       | none=>rfl
       | some r =>
         cases r with
         | none=>rfl
         | some i =>
           rcases ur hf with ⟨h1,_⟩|⟨i',h1,_⟩
           . cases h1
           . cases h1;have e1:s+1+i'-(s+1)=i':=by omega
             have e2:s+1+i'-s=i'+1:=by omega
             simp only[e1,e2,List.getD_cons_succ]
     . simp only[if_true,Nat.sub_self,List.getD_cons_zero]
theorem E8 (h:aY g U w) {t:TypeId} {m k:AV} {vm vk:Value} {ok:Bool} (hm:av g m vm) (hk:av g k vk) :
 ay.Fits C g U (tJ C.P t m k ok U) ((do let r <- Instr.lookup t vm vk ok; pure (Next.value r):Sem Next).run C.P w):=by
 unfold tJ;split
 . rename_i fk e ks vs ht he;split
   . rename_i z hz Hs;obtain⟨kt,hu,VS⟩:=wI ht;obtain⟨d,hd,Er⟩:∃ d,C.P.underlying kt=some d/\((fk=.i/\∃ q,d=.int q)\/(fk=.s/\d=.string)):=by
      rcases VS with ⟨rfl,q,hq⟩|⟨rfl,hq⟩
      . exact⟨_,hq,.inl ⟨rfl,q,rfl⟩⟩
      . exact⟨_,hq,.inr ⟨rfl,rfl⟩⟩
     have Po:(∃ q,d=.int q)\/d=.string:=Er.imp (·.2) (·.2);obtain⟨i,vz,hi,rm,Lj⟩:∃ i vz,C.P.info? e=some i/\i.zero=some vz/\B8 vz=z:=by
      unfold zeroV at hz;cases hi:C.P.info? e with
      | none=>simp[hi]at hz
      | some i =>
        cases mb:i.zero with
        | none=>simp[hi,mb]at hz
        | some vz=>simp[hi,mb]at hz; exact⟨i,vz,rfl,mb,hz⟩
     have RE:av g z vz:=by rw[<- Lj]; exact Bk vz
     obtain⟨es,wk,l,hp,aaS,h1,h2⟩:∃ es:Array MapEntry,((vm=.map none/\es=#[])\/∃ r clock,vm=.map (some r)/\w.heap[r]?=some (Obj.map es clock))/\ug g ks vs es:=by
      cases m<;>simp only[kS,reduceCtorEq,fZ,fO]at he
      . obtain⟨rfl,rfl⟩:=he;simp only[av]at hm; subst hm;exact⟨#[],.inl ⟨rfl,rfl⟩,[],List.Perm.refl _,by simp[nx],by simp[aC],by simp[aC]⟩
      . simp only[av]at hm;obtain⟨r,hr,rfl⟩:=hm;obtain⟨r',es,clock,q1,q2,q3,_,q4,_⟩:=h.mp _ _ he;rw[hr]at q1; cases q1;exact⟨es,.inr ⟨r,clock,rfl,q3⟩,q4⟩
      . obtain⟨rfl,rfl⟩:=he;simp only[av]at hm;obtain⟨r,es,clock,l,rfl,hr,q0,q1,q2,q3⟩:=hm;exact⟨es,.inr ⟨r,clock,rfl,(h.bL r es clock hr).1⟩,l,q0,q1,q2,q3⟩
     have hlen:ks.length=vs.length:=by
      have a:=h1.length;have b:=h2.length;simp at a b; omega
     rw[Ao ks vs 0 hlen];cases hf:j0 fk k ks 0 with
     | none=>trivial
     | some r =>
       have KU:=run_checkKey (P:=C.P) (w:=w) (em:=es.isEmpty) hd Po 9999 vk;have key:=y3 (P:=C.P) hd Er hk hp aaS h1 hf;have fin:∀ q:Option (Nat×Value),Instr.findNow d vk es.toList 0=some q->(Instr.lookup t vm vk ok).run C.P w=(match q with
        | some (_,v)=>.ok (if ok then .tuple #[v,.bool true] else v) w
        | none=>.ok (if ok then .tuple #[vz,.bool false] else vz) w):=λ q hq=>by
        rcases wk with ⟨rfl,rfl⟩|⟨r,clock,rfl,hh⟩
        . simp only[Instr.lookup,bO,run_underlying hu,bZ,cg,KU,Instr.findKey,run_underlying hd,hq];cases q with
          | none=>simp only[cg,bZ,bO,ff hi rm]
          | some p=>rfl
        . have qi:(getObj r).run C.P w=.ok (Obj.map es clock) w:=by simp[getObj,Sem.run,hh]
          simp only[Instr.lookup,bO,run_underlying hu,bZ,cg,qi,KU,Instr.findKey,run_underlying hd,hq];cases q with
          | none=>simp only[cg,bZ,bO,ff hi rm]
          | some p=>rfl
       rcases key with ⟨rfl,_,hn⟩|⟨i,j,e,rfl,_,Ev,_,_,hn⟩
       . simp only[bO,fin _ (hn 0),bZ,cg];refine aV h ?_;cases ok
         . exact RE
         . simp only[if_true,av];exact⟨[vz,.bool false],rfl,by simp only[aC]; exact⟨_,_,rfl,RE,_,_,rfl,by simp only[av],rfl⟩⟩
       . simp only[bO,fin _ (hn 0),bZ,cg,Nat.sub_zero];have hv:av g (vs.getD i z) e.val:=by
          have aL:i<vs.length:=by
           have a:=(dp.1 Ev).1;have b:=h2.length;simp at b; omega
          obtain⟨v,hv,Lf⟩:=h2.get (i:=i) (x:=vs[i]) (nq aL);rw[jB,Ev]at hv;simp at hv;subst hv;have:vs.getD i z=vs[i]:=by simp[BK,aL]
          rw[this]; exact Lf
         refine aV h ?_;cases ok
         . exact hv
         . simp only[if_true,av];exact⟨[e.val,.bool true],rfl,by simp only[aC]; exact⟨_,_,rfl,hv,_,_,rfl,by simp only[av],rfl⟩⟩
   . trivial
 . trivial
theorem JF (h:aY g U w):ay.Fits C g U .Dy (.ok (.value (.map (some w.heap.size))) (w.alloc (.map #[] 0))):=by
 obtain⟨b,g',h1,h2,h3,h4⟩:=h.rv (.map #[] 0) 0 0 (.mp [] []) λ g' hle hi hm=>⟨#[],0,heap_alloc_new w _,⟨by simp,by simp⟩,⟨[],List.Perm.refl _,by simp[nx],by simp[aC],by simp[aC]⟩,hm⟩;exact⟨_,_,g',b,rfl,h1,h2,h4,by simp only[NV.at,av]; exact⟨_,Gh.nG.2 ⟨_,h3,rfl⟩,rfl⟩⟩
end
end Go.Rip
namespace Go.Rip
open Go.RowKit
def bu (c a b:AV):ay :=
 match c with
 | .bool t=>.val (if t=true then a else b)
 | _=>.bad
def xN (P:Program) (s f:Nat):Option (Nat×Bool×Nat) :=
 match P.underlying s with
 | some (.struct fields)=>match fields[f]? with
   | some x=>match lR P x.type with
     | some (b,n)=>some (x.offset,b,n)
     | none=>none
   | none=>none
 | _=>none
def we (P:Program) (s:TypeId) (x:AV) (f:Nat):ay :=
 match xN P s f,x with
 | some (o,true,n),.agg l=>.cond (o+n<=l.length) (.val (.agg ((l.drop o).take n)))
 | some (o,false,_),.agg l=>fV (l.drop o)
 | _,_=>.bad
def gi (P:Program) (f:AV) (args:List AV):ay :=
 match f with
 | .func (.func g) first cap=>if dG P g=true then .enter g (first++args++cap) else .bad
 | .qf o=>.yield o args
 | _=>.bad
def FB (P:Program) (t:TypeId) (m:AV):ay :=
 match oK P t,m with
 | some _,.eD ks vs=>.new .it none (.iter (ks.zip vs) none)
 | _,_=>.bad
def qF:List (AV×AV)->List ((AV×AV)×List (AV×AV))
 | []=>[]
 | x::xs=>(x,xs)::(qF xs).map λ p=>(p.1,x::p.2)
def qE (i:AV) (U:St):ay :=
 match i with
 | .it o=>match U.iter o with
   | some ([],_)=>.val (.aQ [.bool false])
   | some (x::xs,_)=>.jF o ((qF (x::xs)).map λ p=>(.aQ [.bool true,p.1.1,p.1.2],.iter p.2 (some p.1)))
   | none=>.bad
 | _=>.bad
def ny (i:AV) (U:St):ay :=
 match i with
 | .it o=>match U.iter o with
   | some (_,some kv)=>.val (.aQ [kv.1,kv.2])
   | _=>.bad
 | _=>.bad
def xG (P:Program) (t:TypeId):Option AV :=
 match P.underlying t with
 | some (.interface _)=>none
 | some _=>zeroV P t
 | none=>none
def s8 (P:Program) (x:AV) (t:TypeId) (ok:Bool):ay :=
 match xG P t,x with
 | some z,.iface u v=>if u=t then .val (if ok then .aQ [v,.bool true] else v) else if ok then .val (.aQ [z,.bool false]) else .bad
 | some z,.cS=>if ok then .val (.aQ [z,.bool false]) else .bad
 | _,_=>.bad
def qD (P:Program) (t:TypeId) (mu:Bool) (l c:AV):ay :=
 match dP P t,l,c with
 | some (e,sz),.int _ l,.int _ c=>match nN P e with
   | some z=>.cond (0<=l/\l=c/\c<=65536) (if mu then .mJ l.toNat sz e none (bN l.toNat z) else .lr l.toNat (bN l.toNat z) none ⟨l.toNat,e,sz⟩)
   | none=>.bad
 | _,_,_=>.bad
def vX (P:Program) (t:TypeId) (x:AV) (U:St):ay :=
 match dP P t,x with
 | some (e,sz),.ms b off n gy _=>match U.box b,nN P e with
   | some l,some z=>.cond (gy=sz/\off+n*sz<=l.length) (.kI (.aQ []) b (.box (ax l off (bN n z))))
   | _,_=>.bad
 | _,_=>.bad
def zW (P:Program) (t u:TypeId):Option (TypeId×Nat×List AV) :=
 match P.underlying u with
 | some (.int _)=>match dP P t with
   | some (e,sz)=>match nN P e with
     | some z=>some (e,sz,z)
     | none=>none
   | none=>none
 | _=>none
def Dr (q:TypeId×Nat×List AV) (mu:Bool) (s y:AV):ay :=
 match s,y with
 | .ag,.int _ n=>.cond (0<n/\n<=65536) (if mu then .mJ n.toNat q.2.1 q.1 none (bN n.toNat q.2.2) else .lr n.toNat (bN n.toNat q.2.2) none ⟨n.toNat,q.1,q.2.1⟩)
 | _,_=>.bad
def DZ (st:Option (TypeId×Nat)) (x:AV):ay:=match st,x with
 | some _,.ag=>.val (.int .i64 0)
 | _,_=>.bad
def xF (P:Program) (t u:TypeId) (mu:Bool) (s y:AV) (U:St):ay :=
 match zW P t u with
 | some q=>Dr q mu s y
 | none=>Be P t u mu s y U
def xK (C:ck) (mu:Bool) (c:Call) (ρ:Env) (U:St):ay :=
 match c.callee,c.argTypes.toList,c.args.toList with
 | .value f,_,args=>gi C.P (ρ.ev C f) (args.map (ρ.ev C))
 | .builtin .len,[t],[x]=>EY C.P t (ρ.ev C x) U
 | .builtin .append,[t,u],[s,y]=>xF C.P t u mu (ρ.ev C s) (ρ.ev C y) U
 | .builtin .cap,[t],[x]=>DZ (dP C.P t) (ρ.ev C x)
 | .builtin .min,_,[x,y]=>wK (ρ.ev C x) (ρ.ev C y)
 | .builtin .max,_,[x,y]=>wJ (ρ.ev C x) (ρ.ev C y)
 | .builtin .clear,[t],[x]=>vX C.P t (ρ.ev C x) U
 | _,_,_=>.bad
def gV (C:ck) (mu:Bool) (o:Op) (ρ:Env) (U:St):ay :=
 match o with
 | .move x|.assign x=>.val (ρ.ev C x)
 | .pick c a b=>bu (ρ.ev C c) (ρ.ev C a) (ρ.ev C b)
 | .alloc t=>DP C.P t
 | .box _ x=>fM (ρ.ev C x)
 | .build t parts=>DW C.P t (kn C ρ parts)
 | .buildSlice t n parts=>pC C.P t n mu (kn C ρ parts)
 | .insert t m k v|.mapUpdate t m k v=>oL C.P t (ρ.ev C m) (ρ.ev C k) (ρ.ev C v) U
 | .load t a=>si C.P t (ρ.ev C a) U
 | .store t a v=>FU C.P t (ρ.ev C a) (ρ.ev C v) U
 | .nilCheck x=>aS (ρ.ev C x)
 | .binOp op t x y _=>DU C.P op t (isLit x||isLit y) (ρ.ev C x) (ρ.ev C y)
 | .unOp op _ x=>ig op (ρ.ev C x)
 | .convert s d x=>Dl C.P s d (ρ.ev C x)
 | .makeInterface t x=>uL C.P t (ρ.ev C x)
 | .makeFunc fn first cap=>.val (.func fn (first.toList.map (ρ.ev C)) (cap.toList.map (ρ.ev C)))
 | .makeMap _ none=>.Dy
 | .slice t x lo hi none=>FM C.P t (ρ.ev C x) (lo.map (ρ.ev C)) (hi.map (ρ.ev C))
 | .fieldAddr s x f=>uq C.P s (ρ.ev C x) f
 | .field s x f=>we C.P s (ρ.ev C x) f
 | .indexAddr t x i=>uC C.P t (ρ.ev C x) (ρ.ev C i)
 | .index t x i=>Ah C.P t (ρ.ev C x) (ρ.ev C i)
 | .lookup t m k ok=>tJ C.P t (ρ.ev C m) (ρ.ev C k) ok U
 | .extract t i=>aK (ρ.ev C t) i
 | .panic x=>rB (ρ.ev C x)
 | .range t m=>FB C.P t (ρ.ev C m)
 | .typeAssert x _ t ok=>s8 C.P (ρ.ev C x) t ok
 | .makeSlice t l c=>qD C.P t mu (ρ.ev C l) (ρ.ev C c)
 | .next i false=>qE (ρ.ev C i) U
 | .entry i=>ny (ρ.ev C i) U
 | .call c=>xK C mu c ρ U
 | _=>.bad
section
variable {C:ck} {g:Gh} {U:St} {w:World}
theorem Bn (h:aY g U w) {s f:Nat} {x:AV} {v:Value} (hx:av g x v):ay.Fits C g U (we C.P s x f) ((do let r <- Instr.field s v f; pure (Next.value r):Sem Next).run C.P w):=by
 unfold we;have key:∀ {o b n},xN C.P s f=some (o,b,n)->∃ fs y i d,C.P.underlying s=some (.struct fs)/\fs[f]?=some y/\y.offset=o/\C.P.info? y.type=some i/\C.P.underlying y.type=some d/\Bd d=b/\i.size=n:=λ {o b n} hf=>by
  unfold xN at hf;split at hf
  . rename_i fs hu;split at hf
    . rename_i y hy;split at hf
      . rename_i b' n' hv;simp only[fZ,fO]at hf;obtain⟨rfl,rfl,rfl⟩:=hf;obtain⟨i,d,h1,h2,h3,h4⟩:=mB hv;exact⟨fs,y,i,d,hu,hy,rfl,h1,h2,h3,h4⟩
      . cases hf
    . cases hf
  . cases hf
 split
 . rename_i o n l hf;obtain⟨fs,y,i,d,hu,hy,rfl,hi,hd,ha,rfl⟩:=key hf;intro hle;simp only[av]at hx;obtain⟨vs,rfl,h1,hr⟩:=hx;simp only[Instr.field,bO,run_underlying hu,bZ,hy,asAgg,cg,part,jI hd,ha,if_true,dO,dC hi];refine aV h ?_;simp only[av];refine⟨(vs.drop y.offset).take i.size,?_,λ u hu=>h1 u (List.mem_of_mem_drop (List.mem_of_mem_take hu)),(hr.drop _).take _⟩;congr 1;apply Array.ext';simp[List.extract_eq_take_drop]
 . rename_i o n l hf;obtain⟨fs,y,i,d,hu,hy,rfl,hi,hd,ha,rfl⟩:=key hf;simp only[av]at hx;obtain⟨vs,rfl,h1,hr⟩:=hx;cases hl:l.drop y.offset with
   | nil=>trivial
   | cons z zs =>
     have hz:l[y.offset]?=some z:=by
      have:=congrArg (λ l=>l[0]?) hl;simpa using this
     obtain⟨u,mX,Ws⟩:=hr.get hz;have e:vs.toArray[y.offset]?=some u:=by simpa using mX
     simp only[Instr.field,bO,run_underlying hu,bZ,hy,asAgg,cg,part,jI hd,ha,bQ,if_false,dO,e];exact aV h Ws
 . trivial
theorem xM (hG:fQ C g) {ρ:Env} {a:Act} (hr:fj g ρ a.tmps):∀ l:List Operand,aC g (l.map (ρ.ev C)) (l.map a.eval)
 | []=>by simp[aC]
 | x::l=>by simp only[dY,aC]; exact⟨_,_,rfl,qV hG hr x,xM hG hr l⟩
theorem O7 (h:aY g U w) {f:AV} {vf:Value} {args:List AV} {vs:List Value} (hf:av g f vf) (ha:aC g args vs) :
 ay.Fits C g U (gi C.P f args) ((do let d <- Deferred.ofValue vf vs.toArray; invoke d.target d.args:Sem Next).run C.P w):=by
 unfold gi;split
 . rename_i q first cap
   split
   . rename_i he;simp only[av]at hf;obtain⟨fs,cs,rfl,h1,h2⟩:=hf;unfold dG at he;split at he
     . rename_i fn hfn;simp only[bV,Bool.not_eq_true']at he;have hb:fn.body.isNone=false:=by cases hb:fn.body<;>simp_all
       simp only[Deferred.ofValue,invoke,callFunc,bO,cg,bZ,run_program,hfn,he.2,hb,bQ,if_false,dO];exact⟨fs++vs++cs,w,by simp,h,(h1.append ha).append h2⟩
     . cases he
   . trivial
 . rename_i o;simp only[av]at hf;obtain⟨x,hx,rfl⟩:=hf;simp only[Deferred.ofValue,invoke,bO,cg,bZ];exact⟨vs,x,w,w,hx,by simp,rfl,h,ha⟩
 . trivial
theorem zB (h:aY g U w) {x:AV} {v:Value} {xt t:TypeId} {ok:Bool} (hx:av g x v) :
 ay.Fits C g U (s8 C.P x t ok) ((do let r <- Instr.typeAssert v xt t ok; pure (Next.value r):Sem Next).run C.P w):=by
 have key:∀ {z:AV},xG C.P t=some z->∃ d i vz,C.P.underlying t=some d/\(∀ ms,d≠.interface ms)/\C.P.info? t=some i/\i.zero=some vz/\av g z vz:=λ {z} hz=>by
  unfold xG at hz;split at hz
  . cases hz
  . rename_i d hn hd;unfold zeroV at hz;cases hi:C.P.info? t with
    | none=>simp[hi]at hz
    | some i =>
      cases mb:i.zero with
      | none=>simp[hi,mb]at hz
      | some vz=>simp[hi,mb]at hz; exact⟨d,i,vz,hd,λ ms e=>hn ms e,rfl,mb,by rw[<- hz]; exact Bk vz⟩
  . cases hz
 unfold s8;split
 . rename_i z u y hz;obtain⟨d,i,vz,hd,hn,hi,mb,Lj⟩:=key hz;simp only[av]at hx;obtain⟨q,rfl,hq⟩:=hx;have fD:(Instr.typeAssert (.iface u q) xt t ok).run C.P w=(if u=t then .ok (if ok then .tuple #[q,.bool true] else q) w else if ok then .ok (.tuple #[vz,.bool false]) w else (Instr.typeAssert (.iface u q) xt t ok).run C.P w):=by
    by_cases hu:u=t
    . rw[if_pos hu];cases d<;>first
       | exact absurd rfl (hn _)
       | (cases ok<;>simp[Instr.typeAssert,run_underlying hd,hu])
    . rw[if_neg hu];cases ok
      . rfl
      . cases d<;>first
         | exact absurd rfl (hn _)
         | simp[Instr.typeAssert,run_underlying hd,hu,ff hi mb]
   split
   . rename_i hu;rw[bO,fD,if_pos hu];refine aV h ?_;cases ok
     . exact hq
     . simp only[if_true,av,aC]; exact⟨_,rfl,_,_,rfl,hq,_,_,rfl,rfl,rfl⟩
   . rename_i hu;split
     . rename_i cw;rw[bO,fD,if_neg hu,if_pos cw];exact aV h (by simp only[av,aC]; exact⟨_,rfl,_,_,rfl,Lj,_,_,rfl,rfl,rfl⟩)
     . trivial
 . rename_i z hz;obtain⟨d,i,vz,hd,hn,hi,mb,Lj⟩:=key hz;simp only[av]at hx;subst hx;split
   . rename_i cw;subst cw;have fD:(Instr.typeAssert .nilIface xt t true).run C.P w=.ok (.tuple #[vz,.bool false]) w:=by
      cases d<;>first
       | exact absurd rfl (hn _)
       | simp[Instr.typeAssert,run_underlying hd,ff hi mb]
     rw[bO,fD];exact aV h (by simp only[av,aC]; exact⟨_,rfl,_,_,rfl,Lj,_,_,rfl,rfl,rfl⟩)
   . trivial
 . trivial
theorem Ar (h:aY g U w) {t:TypeId} {mu:Bool} {l c:AV} {vl vc:Value} (hl:av g l vl) (hc:av g c vc) :
 ay.Fits C g U (qD C.P t mu l c) ((do let x <- Instr.makeSlice t vl vc; pure (Next.value x):Sem Next).run C.P w):=by
 unfold qD;split
 . rename_i e sz kl l kc c hs;split
   . rename_i z hz;rintro⟨h0,rfl,h1⟩;obtain⟨i,zv,hu,hi,mb,tC,hsz,qk,hb,_⟩:=gb hs;obtain⟨i',XS,iv,Cq,hm⟩:=lg hz;rw[hi]at iv; cases iv;rw[mb]at Cq; cases Cq;obtain⟨h2,h3⟩:=dB (g:=g) hm;simp only[av]at hl hc;subst hl hc;have Vx:(i.bytes:Int)*l<=281474976710656:=by
      have e1:(i.bytes:Int)*l<=32768*l:=Int.mul_le_mul_of_nonneg_right (by omega) h0;omega
     have fD:=run_make (P:=C.P) w t e i zv hu hi mb kl kc l l h0 (Int.le_refl _) Vx (by omega);have wv:=qJ (g:=g) h2 l.toNat;have VW:madeCells zv.cells (l.toNat*i.size)=(Array.range (l.toNat*zv.cells.size)).map (zv.cells[·%zv.cells.size]!):=by rw[hsz,<- tC]; rfl
     have y6:∀ u∈(madeCells zv.cells (l.toNat*i.size)).toList,u.oneCell'=true:=λ u hu=>by
      rw[VW]at hu;simp only[Array.toList_map,List.mem_map]at hu;obtain⟨j,_,rfl⟩:=hu;have aL:j%zv.cells.size<zv.cells.size:=Nat.mod_lt _ (by omega);rw[getElem!_pos zv.cells _ aL];exact h3 _ (by simp)
     rw[<- VW]at wv;have hlen:(madeCells zv.cells (l.toNat*i.size)).toList.length=l.toNat*sz:=by rw[VW]; simp[tC]
     have EM:z.length=sz:=by have:=h2.length; simp at this; omega
     simp only[bO,fD,bZ,cg];cases mu
     . have:=nA (C:=C) (del:=none) (e:=e) (sz:=sz) (n:=l.toNat) (c:=l.toNat) h (vs:=(madeCells zv.cells (l.toNat*i.size)).toList) (rest:=[]) wv y6 (by simp) (by rw[jC,EM]) (by simpa using hlen) (cN _) (by unfold maxLen; omega);simpa using this
     . have:=oD (C:=C) (del:=none) (e:=e) (sz:=sz) (n:=l.toNat) (c:=l.toNat) h (vs:=(madeCells zv.cells (l.toNat*i.size)).toList) (rest:=[]) wv y6 (by simp) (by simpa using hlen) (cN _) (by unfold maxLen; omega);simpa using this
   . trivial
 . trivial
theorem Gm (h:aY g U w) {t ty:TypeId} {x:AV} {v:Value} (hx:av g x v) :
 ay.Fits C g U (vX C.P t x U) ((do let r <- Builtin.clear_ #[t] ty #[v]; pure (Next.value r):Sem Next).run C.P w):=by
 unfold vX;split
 . rename_i e sz b off n gy e' hs;split
   . rename_i l z hb hz;rintro⟨rfl,h1⟩;obtain⟨i,zv,hu,hi,mb,tC,hsz,qk,_⟩:=gb hs;obtain⟨i',XS,iv,Cq,hm⟩:=lg hz;rw[hi]at iv; cases iv;rw[mb]at Cq; cases Cq;obtain⟨h2,h3⟩:=dB (g:=g) hm;simp only[av]at hx;obtain⟨y,c,hy,rfl,_⟩:=hx;have EM:z.length=gy:=by have:=h2.length; simp at this; omega
     have wv:=qJ (g:=g) h2 n;have Wr:Builtin.zeroCells zv.cells n=(Array.range (n*zv.cells.size)).map (zv.cells[·%zv.cells.size]!):=rfl;obtain⟨w',fz,dK⟩:=tT (C:=C) (off:=off) h hb hy wv (ke h3 n (by omega)) (by rw[jC,EM]; exact h1);rw[<- Wr]at fz
     by_cases hn:n=0
     . subst hn;have e0:U.bM b (ax l off (bN 0 z))=U.bM b l:=by simp[ax,bN]
       simp only[Builtin.clear_,bO,cg,bZ];simp[run_underlying hu];refine⟨_,w,g,.inl rfl,Gh.Le.refl g,?_,by simp only[av]; exact⟨[],rfl,by simp[aC]⟩⟩;show aY g (U.bM b (ax l off (bN 0 z))) w;rw[e0]; exact h.Y6 hb
     . have hz2:=ff (P:=C.P) hi mb w;have Vy:(Builtin.clear_ #[t] ty #[.slice (some ⟨y.aE,off,none⟩) n c]).run C.P w=.ok (.tuple #[]) w':=by
        simp[Builtin.clear_,run_underlying hu,hz2,fz,hn]
       simp only[bO,Vy,bZ,cg];exact⟨_,w',g,.inl rfl,Gh.Le.refl g,dK,by simp only[av]; exact⟨[],rfl,by simp[aC]⟩⟩
   . trivial
 . trivial
theorem yS:∀ {ks vs:List AV},ks.length=vs.length->(ks.zip vs).map (·.1)=ks
 | [],[],_=>rfl
 | [],_::_,h=>by simp at h
 | _::_,[],h=>by simp at h
 | k::ks,v::vs,h=>by simp only[List.zip_cons_cons,dY]; rw[yS (by simpa using h)]
theorem yT:∀ {ks vs:List AV},ks.length=vs.length->(ks.zip vs).map (·.2)=vs
 | [],[],_=>rfl
 | [],_::_,h=>by simp at h
 | _::_,[],h=>by simp at h
 | k::ks,v::vs,h=>by simp only[List.zip_cons_cons,dY]; rw[yT (by simpa using h)]
theorem GM (h:aY g U w) {t:TypeId} {m:AV} {v:Value} (hm:av g m v):ay.Fits C g U (FB C.P t m) ((do let x <- Instr.range t v; pure (Next.value x):Sem Next).run C.P w):=by
 unfold FB;split
 . rename_i p ks vs ht;obtain⟨fk,e⟩:=p;obtain⟨kt,hu,_⟩:=wI ht;simp only[av]at hm;obtain⟨r,es,clock,l,rfl,hr,hp,hs,h1,h2⟩:=hm;obtain⟨q1,q2⟩:=h.bL r es clock hr;have hlen:ks.length=vs.length:=by
    have a:=h1.length;have b:=h2.length;simp at a b; omega
   have qi:(getObj r).run C.P w=.ok (.map es clock) w:=by simp[getObj,Sem.run,q1]
   obtain⟨b,g',f1,f2,f3,f4⟩:=h.rv (.mapIter (some r) clock #[] clock) 0 0 (.iter (ks.zip vs) none) λ g' hle hi K6 =>
    ⟨r,es,clock,#[],heap_alloc_new w _,hle.bL _ _ hr,⟨l,by
      have:(es.toList.filter λ e=>!(#[]:Array Nat).contains e.born)=es.toList:=by simp
      rw[this]; exact hp,by rw[yS hlen]; exact h1.mono hle,by rw[yT hlen]; exact h2.mono hle⟩,trivial⟩
   simp only[Instr.range,bO,run_underlying hu,bZ,qi,cg,run_newObj];exact⟨_,_,g',b,rfl,f1,f2,f4,by simp only[NV.at,av]; exact⟨_,f3,rfl⟩⟩
 . trivial
theorem CQ:∀ {l:List (AV×AV)} {i:Nat} {x:AV×AV},l[i]?=some x->(x,l.eraseIdx i)∈qF l
 | [],i,x,h=>by simp at h
 | y::l,0,x,h=>by simp at h; subst h; simp[qF]
 | y::l,i+1,x,h=>by
   simp only[List.getElem?_cons_succ]at h;simp only[qF,List.eraseIdx_cons_succ,fe,List.mem_map];exact .inr ⟨_,CQ h,rfl⟩
theorem aC.eraseIdx:∀ {l:List AV} {vs:List Value} (i:Nat),aC g l vs->aC g (l.eraseIdx i) (vs.eraseIdx i)
 | [],_,_,h=>by simp only[aC]at h; subst h; simp[aC]
 | y::ys,_,0,h=>by
   simp only[aC]at h;obtain⟨v,vs,rfl,h1,h2⟩:=h;simpa using h2
 | y::ys,_,i+1,h=>by
   simp only[aC]at h;obtain⟨v,vs,rfl,h1,h2⟩:=h;simp only[List.eraseIdx_cons_succ,aC];exact⟨v,_,rfl,h1,aC.eraseIdx i h2⟩
theorem lq {α β:Type} (f:α->β):∀ (l:List α) (i:Nat),(l.eraseIdx i).map f=(l.map f).eraseIdx i
 | [],i=>by simp
 | x::l,0=>by simp
 | x::l,i+1=>by simp[lq f l i]
theorem Dd {α:Type} {l m:List α} (h:l.Perm m) {i j:Nat} {e:α} (hi:l[i]?=some e) (hj:m[j]?=some e):(l.eraseIdx i).Perm (m.eraseIdx j):=by
 obtain⟨h1,h2⟩:=dp.1 hi;obtain⟨h3,h4⟩:=dp.1 hj;have el:l=l.take i++e::l.drop (i+1):=by
  conv=>lhs; rw[<- List.take_append_drop i l,iq h1,h2]
 have em:m=m.take j++e::m.drop (j+1):=by
  conv=>lhs; rw[<- List.take_append_drop j m,iq h3,h4]
 have hp:(l.take i++e::l.drop (i+1)).Perm (m.take j++e::m.drop (j+1)):=by rw[<- el,<- em]; exact h
 have h5:=(List.perm_middle.symm.trans hp).trans List.perm_middle;rw[List.eraseIdx_eq_take_drop_succ,List.eraseIdx_eq_take_drop_succ];exact List.Perm.cons_inv h5
theorem Gu {es:List MapEntry} (hn:(es.map (·.born)).Nodup) {seen:Array Nat} {e:MapEntry} {j:Nat} (hj:(es.filter λ x=>!seen.contains x.born)[j]?=some e) :
 (es.filter λ x=>!(seen.push e.born).contains x.born)=(es.filter λ x=>!seen.contains x.born).eraseIdx j:=by
 have e1:(es.filter λ x=>!(seen.push e.born).contains x.born)=(es.filter λ x=>!seen.contains x.born).filter λ x=>x.born != e.born:=by
  rw[List.filter_filter];apply List.filter_congr;intro x _;simp only[Array.contains_push,Bool.not_or];rw[Bool.and_comm];congr 1
 rw[e1];have K9:((es.filter λ x=>!seen.contains x.born).map (·.born)).Nodup:=List.Nodup.sublist (List.Sublist.map _ List.filter_sublist) hn;generalize (es.filter λ x=>!seen.contains x.born)=l at hj K9;clear e1 hn es
 induction l generalizing j with
 | nil=>simp at hj
 | cons y l ih =>
   simp only[dY,List.nodup_cons]at K9;cases j with
   | zero =>
     simp at hj; subst hj;simp only[List.filter_cons,bne_self_eq_false,bQ,if_false,List.eraseIdx_zero,List.tail_cons];rw[List.filter_eq_self];intro x hx;simp only[bne_iff_ne,ne_eq];intro he;exact K9.1 (he▸List.mem_map_of_mem hx)
   | succ j =>
     simp only[List.getElem?_cons_succ]at hj;have cv:y.born≠e.born:=λ he=>K9.1 (he▸List.mem_map_of_mem (gA hj));simp only[List.filter_cons,bne_iff_ne,ne_eq,cv,not_false_eq_true,if_true,List.eraseIdx_cons_succ];rw[ih hj K9.2]
theorem JG (h:aY g U w) {i:AV} {v:Value} {ty:TypeId} (hi:av g i v):ay.Fits C g U (qE i U) ((do let x <- Instr.next v false ty; pure (Next.value x):Sem Next).run C.P w):=by
 unfold qE;split
 . rename_i o;simp only[av]at hi;obtain⟨p,hp,rfl⟩:=hi;split
   . rename_i cur hit;obtain⟨p',k1,k2,m,es,clock,seen,k3,k4,⟨l,k5,k6,k7⟩,k8⟩:=h.live o _ (St.uH.1 hit);rw[hp]at k1; cases k1;obtain⟨q1,q2⟩:=h.bL m es clock k4;simp only[lO,aC,List.map_eq_nil_iff]at k6;subst k6;have Bt:=k5.symm.eq_nil;have KY:(getObj p.aE).run C.P w=.ok (.mapIter (some m) clock seen clock) w:=by simp[getObj,Sem.run,k3]
     have KZ:(getObj m).run C.P w=.ok (.map es clock) w:=by simp[getObj,Sem.run,q1]
     have IZ:(!seen.isEmpty&&!es.isEmpty&&es.all (λ e=>decide (e.born>=clock)))=false:=by
      cases he:es.isEmpty
      . have:es.all (λ e=>decide (e.born>=clock))=false:=by
         rw[Array.all_eq_false];have h0:0<es.size:=by
          rcases Nat.eq_zero_or_pos es.size with h0|h0
          . simp[Array.isEmpty,h0]at he
          . exact h0
         refine⟨0,h0,?_⟩;have:=q2.2 es[0] (by simp);simp; omega
        simp[this]
      . simp
     have YR:(es.filter λ e=>!seen.contains e.born)=#[]:=by
      apply Array.ext';simpa using Bt
     simp only[Instr.next,bO,KY,bZ,KZ,IZ,dO,bQ,if_false,cg,YR]
     have e2:(#[]:Array MapEntry).filter (λ e=>decide (e.born<clock))=#[]:=by simp
     have e3:(#[]:Array MapEntry).filter (λ e=>decide (e.born>=clock))=#[]:=by simp
     simp[choose,Sem.run,Question.forced,Result.andThen];exact aV h (by simp only[av,aC]; exact⟨[.bool false],rfl,_,_,rfl,rfl,rfl⟩)
   . rename_i x xs cur hit;obtain⟨p',k1,k2,m,es,clock,seen,k3,k4,⟨l,k5,k6,k7⟩,k8⟩:=h.live o _ (St.uH.1 hit);rw[hp]at k1; cases k1;obtain⟨q1,q2⟩:=h.bL m es clock k4;have KY:(getObj p.aE).run C.P w=.ok (.mapIter (some m) clock seen clock) w:=by simp[getObj,Sem.run,k3]
     have IZ:(!seen.isEmpty&&!es.isEmpty&&es.all (λ e=>decide (e.born>=clock)))=false:=by
      cases he:es.isEmpty
      . have:es.all (λ e=>decide (e.born>=clock))=false:=by
         rw[Array.all_eq_false];have h0:0<es.size:=by
          rcases Nat.eq_zero_or_pos es.size with h0|h0
          . simp[Array.isEmpty,h0]at he
          . exact h0
         refine⟨0,h0,?_⟩;have:=q2.2 es[0] (by simp);simp; omega
        simp[this]
      . simp
     generalize hL:(es.filter λ e=>!seen.contains e.born)=L;have Hh:(es.toList.filter λ e=>!seen.contains e.born)=L.toList:=by rw[<- hL]; simp
     rw[Hh]at k5;have kU:∀ e∈L.toList,e∈es.toList:=λ e he=>by rw[<- Hh]at he; exact (List.mem_filter.1 he).1
     have hlen:l.length=xs.length+1:=by have:=k6.length; simpa using this
     have KP:L.size=xs.length+1:=by rw[<- hlen,k5.length_eq]; simp
     have hold:L.filter (λ e=>decide (e.born<clock))=L:=by
      apply Array.ext';rw[Array.toList_filter,List.filter_eq_self];intro e he;have:=q2.2 e (kU e he);simpa using this
     have nQ:L.filter (λ e=>decide (e.born>=clock))=#[]:=by
      apply Array.ext';rw[Array.toList_filter];apply List.filter_eq_nil_iff.2;intro e he;have:=q2.2 e (kU e he);simp; omega
     have hem:L.isEmpty=false:=by simp[Array.isEmpty,KP]
     have key:∀ (w1:World) (c:Nat),w1.heap=w.heap->w1.os=w.os->w1.tape=w.tape->w1.output=w.output->c<L.size ->
      ∀ e,L[c]?=some e->∃ u w' g' v x',(setObj p.aE (.mapIter (some m) clock (seen.push e.born) clock)).run C.P w1=.ok () w'/\u=Value.tuple #[.bool true,e.key,e.val] /\
       (v,x')∈(qF (x::xs)).map (λ p=>(AV.aQ [.bool true,p.1.1,p.1.2],Live.iter p.2 (some p.1)))/\Gh.Le g g'/\aY g' (U.set o x') w'/\av g' v u:=λ w1 c e1 e2 e3 e4 hc e he=>by
      have jV:L.toList[c]?=some e:=by rw[jm]; exact he
      obtain⟨a,ha⟩:=List.getElem?_of_mem (k5.mem_iff.2 (gA jV));have Ek:a<(x::xs).length:=by
       have:=(dp.1 ha).1;rw[hlen]at this; simpa using this
      have RD:(x::xs)[a]?=some ((x::xs)[a]):=nq Ek;generalize (x::xs)[a]=kv at RD;obtain⟨vk,kr,qZ⟩:=k6.get (i:=a) (x:=kv.1) (by rw[jB,RD]; rfl);obtain⟨vv,Wl,fy⟩:=k7.get (i:=a) (x:=kv.2) (by rw[jB,RD]; rfl);rw[jB,ha]at kr Wl;simp at kr Wl;subst kr Wl;have Bu:(setObj p.aE (.mapIter (some m) clock (seen.push e.born) clock)).run C.P w1=.ok () { w1 with heap:=w1.heap.setIfInBounds p.aE (.mapIter (some m) clock (seen.push e.born) clock) }:=by
       simp[setObj,Sem.run,e1,k3]
      have aL:=(jl.1 k3).1;refine⟨_,_,g,_,_,Bu,rfl,List.mem_map.2 ⟨_,CQ RD,rfl⟩,Gh.Le.refl g,?_,?_⟩
      . refine h.rewrite (St.uH.1 hit) hp ⟨e2,e3,e4,by simp[e1]⟩ (λ k hk _=>by simp only[e1]; exact Array.getElem?_setIfInBounds_ne (Ne.symm hk)) (λ o=>?_) ?_ ?_
        . cases ei:g.bT p.aE o with
          | none=>rfl
          | some u=>have:=(h.bT _ _ _ ei).1; simp[World.cell?,k3]at this
        . cases ei:g.bL p.aE with
          | none=>rfl
          | some u=>have:=(h.bL _ _ _ ei).1; rw[k3]at this; cases this
        . refine⟨m,es,clock,seen.push e.born,by simp[e1,aL],k4,⟨l.eraseIdx a,?_,?_,?_⟩,e,?_,by simp,qZ,fy⟩
          . have yw:(es.toList.filter λ e=>!seen.contains e.born)[c]?=some e:=by rw[Hh]; exact jV
            rw[Gu q2.1 yw,Hh];exact Dd k5 ha jV
          . rw[lq,lq]; exact k6.eraseIdx a
          . rw[lq,lq]; exact k7.eraseIdx a
          . exact kU e (gA jV)
      . simp only[av,aC];exact⟨_,rfl,_,_,rfl,rfl,_,_,rfl,qZ,_,_,rfl,fy,rfl⟩
     have EA:∀ (n:Nat) (w1:World),(choose (.mapNext L.size)).run C.P w=.ok n w1->w1.heap=w.heap->w1.os=w.os->w1.tape=w.tape->w1.output=w.output->n<L.size ->
      ay.Fits C g U (.jF o ((qF (x::xs)).map λ p=>(.aQ [.bool true,p.1.1,p.1.2],.iter p.2 (some p.1)))) ((do let x <- Instr.next (.pointer (some ⟨p.aE,0,none⟩)) false ty; pure (Next.value x):Sem Next).run C.P w):=λ n w1 hch e1 e2 e3 e4 hn=>by
      have KZ:(getObj m).run C.P w=.ok (.map es clock) w:=by simp[getObj,Sem.run,q1]
      have Vq:L[n]?=some L[n]:=by simp[hn]
      generalize L[n]=e at Vq;obtain⟨u,w',g',v,x',r1,r2,r3,r4,r5,r6⟩:=key w1 n e1 e2 e3 e4 hn e Vq;have YJ:((#[]:Array (Option MapEntry))++(L++#[]).map some).size=L.size:=by simp
      have hcn:((#[]:Array (Option MapEntry))++(L++#[]).map some)[n]?=some (some e):=by simp[Vq]
      simp only[Instr.next,bO,KY,bZ,KZ,IZ,dO,bQ,if_false,cg,hL,hold,nQ,hem,YJ,hch,hcn,r1]
      exact⟨_,w',g',v,x',rfl,r3,r4,r5,by rw[<- r2]; exact r6⟩
     by_cases hf:L.size<=1
     . refine EA 0 w ?_ rfl rfl rfl rfl (by omega);simp[choose,Sem.run,Question.forced,hf]
     . refine EA (w.tape w.drawn (.mapNext L.size)%L.size) w.drew ?_ rfl rfl rfl rfl (Nat.mod_lt _ (by omega));have ZK:Question.forced (.mapNext L.size)=false:=by simp only[Question.forced,decide_eq_false_iff_not]; exact hf
       simp only[choose,Sem.run,ZK,bQ,if_false,Question.cut];rfl
   . trivial
 . trivial
theorem Gs (h:aY g U w) {i:AV} {v:Value} (hi:av g i v):ay.Fits C g U (ny i U) ((do let x <- Instr.entry v; pure (Next.value x):Sem Next).run C.P w):=by
 unfold ny;split
 . rename_i o;simp only[av]at hi;obtain⟨p,hp,rfl⟩:=hi;split
   . rename_i rest kv hit;obtain⟨p',k1,k2,m,es,clock,seen,k3,k4,_,e,k5,k6,k7,k8⟩:=h.live o _ (St.uH.1 hit);rw[hp]at k1; cases k1;obtain⟨q1,q2⟩:=h.bL m es clock k4;have KY:(getObj p.aE).run C.P w=.ok (.mapIter (some m) clock seen clock) w:=by simp[getObj,Sem.run,k3]
     have KZ:(getObj m).run C.P w=.ok (.map es clock) w:=by simp[getObj,Sem.run,q1]
     have I8:es.find? (λ x=>x.born==e.born)=some e:=by
      rw[<- Array.find?_toList];have hn:=q2.1;generalize es.toList=l at k5 hn
      induction l with
      | nil=>simp at k5
      | cons y l ih =>
        simp only[dY,List.nodup_cons]at hn;rw[List.find?_cons];rcases fe.1 k5 with rfl|hm
        . simp
        . have:(y.born==e.born)=false:=by
           simp only[beq_eq_false_iff_ne,ne_eq];intro he;exact hn.1 (he▸List.mem_map_of_mem hm)
          rw[this];exact ih hm hn.2
     simp only[Instr.entry,bO,KY,bZ,k6,KZ,bne_self_eq_false,bQ,if_false,dO,cg,I8];exact aV h (by simp only[av,aC]; exact⟨_,rfl,_,_,rfl,k7,_,_,rfl,k8,rfl⟩)
   . trivial
 . trivial
theorem ym (hG:fQ C g) {ρ:Env} {a:Act} (hr:fj g ρ a.tmps) (parts:Array (Nat×Operand)) :
 (parts.map λ (i,x)=>(i,a.eval x)).size=(kn C ρ parts).length/\∀ (i:Nat) (p:Nat×AV) (q:Nat×Value),(kn C ρ parts)[i]?=some p->(parts.map λ (i,x)=>(i,a.eval x))[i]?=some q->p.1=q.1/\av g p.2 q.2:=by
 refine⟨by simp[kn],λ i p q h1 h2=>?_⟩;simp only[kn,jB,jm,nr]at h1;obtain⟨y,hy,rfl⟩:=h1;simp only[Array.getElem?_map,hy,Option.map_some,fZ]at h2;subst h2;exact⟨rfl,qV hG hr _⟩
theorem H4 (hG:fQ C g) {ρ:Env} {a:Act} (hr:fj g ρ a.tmps) (x:Option Operand):match x.map (ρ.ev C),x.map a.eval with|none,none=>True|some x,some u=>av g x u|_,_=>False:=by
 cases x with
 | none=>trivial
 | some x=>exact qV hG hr x
theorem AI {P:Program} {w:World} {t u ty e:TypeId} {i:TypeInfo} {z:Value} {k k':IntKind} (ht:P.underlying t=some (.slice e)) (hu:P.underlying u=some (.int k')) (hi:P.info? e=some i) (hz:i.zero=some z) (zY:i.bytes<=32768) (hp:0<i.size)
 {n:Nat} (h0:0<n) (hn:n<=65536) :
 (Builtin.append_ #[t,u] ty #[.slice none 0 0,.int k (n:Int)]).run P w =
   .ok (.slice (some ⟨w.heap.size,0,none⟩) n (grownCap w n 0 e))
    (w.drew.alloc (.cells (Builtin.zeroCells z.cells n++Builtin.zeroCells z.cells (grownCap w n 0 e-n)) e)):=by
 have Y0:IntKind.i64.wrap (n:Int)=n:=vj ⟨by omega,by omega⟩;have Pe:¬ (9223372036854775807<(n:Int)):=by omega
 have hb2:n*i.bytes<=140737488355328:=Nat.le_trans (Nat.mul_le_mul hn zY) (by omega);have KM:=growslice_fits (old:=0) (need:=n) (bytes:=i.bytes) (by omega) hb2;have Pd:¬ (281474976710656<Builtin.nextslicecap n 0*i.bytes):=by omega
 have kL:¬ ((281474976710656:Int)<(n:Int)*(i.bytes:Int)):=by
  have:(n:Int)*(i.bytes:Int)=((n*i.bytes:Nat):Int):=by simp
  omega
 have V7:¬ (n=0\/i.size=0):=by omega
 have aaM:¬ ((n:Int)<0):=by omega
 simp[Builtin.append_,run_underlying ht,run_underlying hu,sizeOf,typeInfo,zeroValue,hi,hz,Y0,Pe,Pd,kL,V7,aaM,Question.forced,newRow,grownCap,asInt,asIntOf,Builtin.firstCells];have e1:n≠0:=by omega
 have e2:n*i.size≠0:=Nat.mul_ne_zero e1 (by omega);rw[if_neg e1,if_neg e2]
theorem IV {P:Program} {t u:TypeId} {q:TypeId×Nat×List AV} (h:zW P t u=some q):∃ k,P.underlying u=some (.int k)/\dP P t=some (q.1,q.2.1)/\nN P q.1=some q.2.2:=by
 unfold zW at h;split at h
 . rename_i k hu;split at h
   . rename_i e sz hs;split at h
     . rename_i z hz;cases h;exact⟨k,hu,hs,hz⟩
     . cases h
   . cases h
 . cases h
theorem IU (h:aY g U w) {t u ty:TypeId} {mu:Bool} {q:TypeId×Nat×List AV} (hq:zW C.P t u=some q) {s y:AV} {v v2:Value} (hs:av g s v) (hy:av g y v2) :
 ay.Fits C g U (Dr q mu s y) ((do let r <- Builtin.append_ #[t,u] ty #[v,v2]; pure (Next.value r):Sem Next).run C.P w):=by
 obtain⟨k',hu,rk,hz⟩:=IV hq;unfold Dr;split
 . rename_i k n;rintro⟨h0,h1⟩;obtain⟨i,zv,ht,hi,mb,tC,hsz,qk,zY,hz1⟩:=gb rk;obtain⟨i',XS,iv,Cq,hm⟩:=lg hz;rw[hi]at iv; cases iv;rw[mb]at Cq; cases Cq;obtain⟨h2,h3⟩:=dB (g:=g) hm;simp only[av]at hs hy;subst hs hy;obtain⟨m,rfl⟩:∃ m:Nat,n=m:=⟨n.toNat,by omega⟩;simp only[iJ];have jW:=grownCap_ge w m 0 q.1;have hle:=grownCap_le_maxLen w m 0 q.1 (by unfold maxLen; omega);rw[bO,AI (k:=k) ht hu hi mb zY (by omega) (by omega) (by omega)];have dK:=h.grow (jd w);have wv:=qJ (g:=g) h2 m;have EM:q.2.2.length=i.size:=by have:=h2.length; simp at this; omega
   have y6:=ke h3 m (by omega);have Rt:=ke h3 (grownCap w m 0 q.1-m) (by omega);have hlen:(Builtin.zeroCells zv.cells m).toList.length+(Builtin.zeroCells zv.cells (grownCap w m 0 q.1-m)).toList.length=grownCap w m 0 q.1*q.2.1:=by
    rw[qn,qn,size_zeroCells,size_zeroCells,tC,<- Nat.add_mul,<- hsz];congr 1; omega
   have ew:Builtin.zeroCells zv.cells m++Builtin.zeroCells zv.cells (grownCap w m 0 q.1-m)=((Builtin.zeroCells zv.cells m).toList++(Builtin.zeroCells zv.cells (grownCap w m 0 q.1-m)).toList).toArray:=by simp
   rw[ew];simp only[bZ,cg];cases mu
   . exact nA dK wv y6 Rt (by rw[jC,EM,hsz]) hlen jW hle
   . exact oD dK wv y6 Rt hlen jW hle
 . trivial
theorem Kv (h:aY g U w) {t ty:TypeId} {x:AV} {v:Value} (hx:av g x v) :
 ay.Fits C g U (DZ (dP C.P t) x) ((do let r <- Builtin.cap_ #[t] ty #[v]; pure (Next.value r):Sem Next).run C.P w):=by
 unfold DZ;split
 . rename_i q hq;obtain⟨e,sz⟩:=q;obtain⟨i,z,ht,_⟩:=gb hq;simp only[av]at hx;subst hx;have:(Builtin.cap_ #[t] ty #[.slice none 0 0]).run C.P w=.ok (.int .i64 0) w:=by simp[Builtin.cap_,run_underlying ht]; rfl
   rw[bO,this];exact aV h (by simp only[av])
 . trivial
theorem DS (h:aY g U w) {t u ty:TypeId} {mu:Bool} {s y:AV} {v v2:Value} (hs:av g s v) (hy:av g y v2) :
 ay.Fits C g U (xF C.P t u mu s y U) ((do let r <- Builtin.append_ #[t,u] ty #[v,v2]; pure (Next.value r):Sem Next).run C.P w):=by
 unfold xF;split
 . rename_i q hq;exact IU h hq hs hy
 . exact DR h hs hy
theorem Iv (h:aY g U w) (hG:fQ C g) {ρ:Env} {a:Act} (hr:fj g ρ a.tmps) (mu:Bool) (c:Call) (ty:TypeId) :
 ay.Fits C g U (xK C mu c ρ U) ((do let d <- resolve a.eval c ty; invoke d.target d.args:Sem Next).run C.P w):=by
 obtain⟨callee,⟨args⟩,⟨argTypes⟩⟩:=c;have e:=λ x=>qV hG hr x;have fin:ay.Fits C g U (match callee,argTypes,args with
  | .value f,_,args=>gi C.P (ρ.ev C f) (args.map (ρ.ev C))
  | .builtin .len,[t],[x]=>EY C.P t (ρ.ev C x) U
  | .builtin .append,[t,u],[s,y]=>xF C.P t u mu (ρ.ev C s) (ρ.ev C y) U
  | .builtin .cap,[t],[x]=>DZ (dP C.P t) (ρ.ev C x)
  | .builtin .min,_,[x,y]=>wK (ρ.ev C x) (ρ.ev C y)
  | .builtin .max,_,[x,y]=>wJ (ρ.ev C x) (ρ.ev C y)
  | .builtin .clear,[t],[x]=>vX C.P t (ρ.ev C x) U
  | _,_,_=>.bad) ((do let d <- resolve a.eval ⟨callee,⟨args⟩,⟨argTypes⟩⟩ ty; invoke d.target d.args:Sem Next).run C.P w):=by
  split
  . rename_i f;have:=O7 (C:=C) h (e f) (xM hG hr args);have e2:(args.map a.eval).toArray=(⟨args⟩:Array Operand).map a.eval:=by simp
    rw[e2]at this;exact this
  . rename_i t x;have:=LB (C:=C) (ty:=ty) h (t:=t) (e x);simpa only[resolve,invoke,builtin,bO,cg,bZ,List.map_toArray,dY,lO] using this
  . rename_i t u s y;have:=DS (C:=C) (ty:=ty) (mu:=mu) h (t:=t) (u:=u) (e s) (e y);simpa only[resolve,invoke,builtin,bO,cg,bZ,List.map_toArray,dY,lO] using this
  . rename_i t x;have:=Kv (C:=C) (ty:=ty) h (t:=t) (e x);simpa only[resolve,invoke,builtin,bO,cg,bZ,List.map_toArray,dY,lO] using this
  . rename_i x y;have:=LL (C:=C) (ty:=ty) (ts:=⟨argTypes⟩) h (e x) (e y);simpa only[resolve,invoke,builtin,bO,cg,bZ,List.map_toArray,dY,lO] using this
  . rename_i x y;have:=LK (C:=C) (ty:=ty) (ts:=⟨argTypes⟩) h (e x) (e y);simpa only[resolve,invoke,builtin,bO,cg,bZ,List.map_toArray,dY,lO] using this
  . rename_i t x;have:=Gm (C:=C) (ty:=ty) h (t:=t) (e x);simpa only[resolve,invoke,builtin,bO,cg,bZ,List.map_toArray,dY,lO] using this
  . trivial
 exact fin
theorem PL (h:aY g U w) (hG:fQ C g) {ρ:Env} {a:Act} (hr:fj g ρ a.tmps) (mu:Bool) (o:Oper):ay.Fits C g U (gV C mu o.op ρ U) ((execOp a.eval o).run C.P w):=by
 have e:=λ x=>qV hG hr x;obtain⟨dst,op,type,pos,after,guard⟩:=o;unfold gV;dsimp only;split
 . exact aV h (e _)
 . exact aV h (e _)
 . rename_i c x y;unfold bu;split
   . rename_i t ht;have hc:=e c;rw[ht]at hc;simp only[av]at hc;simp only[execOp,hc,asBool,bO,cg,bZ];refine aV h ?_;cases t
     . exact e _
     . exact e _
   . trivial
 . exact Gf h
 . exact Ku h (e _)
 . obtain⟨h1,h2⟩:=ym hG hr ‹_›;exact Gj h h1 h2
 . obtain⟨h1,h2⟩:=ym hG hr ‹_›;exact yX h h1 h2
 . exact so h (e _) (e _) (e _)
 . exact so h (e _) (e _) (e _)
 . exact Jy h (e _)
 . exact GX h (e _) (e _)
 . exact BD h rfl (e _)
 . exact Ks h _ _ (e _) (e _)
 . exact Qy h (e _)
 . exact IE h (e _)
 . exact Aq h (e _)
 . rename_i fn first cap
   simp only[execOp,Instr.makeFunc,bO,cg,bZ];refine aV h ?_;simp only[av];exact⟨first.toList.map a.eval,cap.toList.map a.eval,by congr 1<;>(apply Array.ext'; simp),xM hG hr _,xM hG hr _⟩
 . simp only[execOp,Instr.makeMap,Option.map_none,bO,cg,bZ,run_newObj];exact JF h
 . exact GW h (e _) (H4 hG hr _) (H4 hG hr _)
 . exact zS h (e _)
 . exact Bn h (e _)
 . exact Ai h (e _) (e _)
 . exact Gx h (e _) (e _)
 . exact E8 h (e _) (e _)
 . exact C9 h (e _) _
 . exact GK h (e _)
 . exact GM h (e _)
 . exact zB h (e _)
 . exact Ar h (e _) (e _)
 . exact JG h (e _)
 . exact Gs h (e _)
 . exact Iv h hG hr mu _ _
 . trivial
end
end Go.Rip
