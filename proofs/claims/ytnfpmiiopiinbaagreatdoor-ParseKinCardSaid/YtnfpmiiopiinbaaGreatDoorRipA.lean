/- Lemmas for the proof: no conditions. -/
import Derived.Test.YtnfpmiiopiinbaaGreatDoorRipZz
import Derived.RangeFuncIn
import Derived.Laws.AppendOwn
import Derived.Below
import Derived.Laws.StructEq
import Derived.Lib.ConvBytes
import Derived.RangeFuncLeaves
import Derived.RangeFuncCalls
import Derived.Laws.MakeOwn
set_option linter.unusedVariables false
set_option linter.unusedSimpArgs false
set_option linter.loopingSimpArgs false
namespace Go.Rip
open Go.RowKit
structure Tok where
 n : Nat
 e : TypeId
 size : Nat
 deriving DecidableEq
inductive ik where
 | full
 | own (τ : Nat)
 | gq
inductive AV where
 | bool (b : Bool)
 | int (k : IntKind) (n : Int)
 | str (s : List UInt8)
 | aR
 | aq
 | iK
 | cx
 | cg
 | box (b off : Nat)
 | bL (l : List AV)
 | vec (n : Nat) (cap : ik) (l : List AV)
 | ms (b off n fI : Nat) (e : TypeId)
 | mp (m : Nat)
 | dL (ks vs : List AV)
 | func (fn : Fn) (first captured : List AV)
 | iface (t : TypeId) (v : AV)
 | agg (l : List AV)
 | aL (l : List AV)
 | nB (o : Nat)
 | it (o : Nat)
 | any
instance : Inhabited AV := ⟨.any⟩
structure Place where
 ax : Nat
 e : TypeId
 size : Nat
structure eg where
 ρ : Nat -> AV
 nt : Nat
 params : Array Tmp
 assign : Code
 body : Code
 state : LoopState
 dN : Option Code
 tag : Nat
inductive Live where
 | box (l : List AV)
 | tok (t : Tok)
 | mp (ks vs : List AV)
 | loop (L : eg)
 | iter (rest : List (AV × AV)) (cur : Option (AV × AV))
 | va (t : TypeId) (l : List AV)
structure Gh where
 base : Nat
 w0 : World
 place : Nat -> Option Place
 bq : Nat -> Nat -> Option Value
 bg : Nat -> Option (Array MapEntry × Nat)
 res : Nat -> Bool
def Gh.box (g : Gh) (b : Nat) : Option Place := g.place b
def Gh.tok (g : Gh) (b : Nat) : Option (Nat × Nat) := (g.place b).map fun p => (p.ax, p.size)
def Gh.mp (g : Gh) (b : Nat) : Option Nat := (g.place b).map (·.ax)
theorem Gh.gu {g : Gh} {b : Nat} {x : Nat × Nat} : g.tok b = some x ↔ ∃ p, g.place b = some p /\ p.ax = x.1 /\ p.size = x.2 := by
 unfold Gh.tok
 cases g.place b with
 | none => simp
 | some p => simp [Prod.ext_iff]
theorem Gh.lg {g : Gh} {b : Nat} {x : Nat} : g.mp b = some x ↔ ∃ p, g.place b = some p /\ p.ax = x := by
 unfold Gh.mp
 cases g.place b with
 | none => simp
 | some p => simp
def gQ (g : Gh) (ax off : Nat) (vs : List Value) : Prop := ∀ i u, vs[i]? = some u -> g.bq ax (off + i) = some u
def l9 (g : Gh) (cap : ik) (ax off n c : Nat) : Prop :=
 match cap with
 | .full => c = n
 | .own τ => off = 0 /\ g.tok τ = some (ax, c)
 | .gq => True
def fN : AV -> AV -> Bool
 | .int k a, .int k' b => decide (k = k') && decide (a < b)
 | .str a, .str b => decide (a < b)
 | _, _ => false
def kQ (ks : List AV) : Prop := ks.Pairwise (fun a b => fN a b = true)
def gx (es : Array MapEntry) (clock : Nat) : Prop := (es.toList.map (·.born)).Nodup /\ ∀ e ∈ es.toList, e.born < clock
mutual
def ak (g : Gh) : AV -> Value -> Prop
 | .bool b, v => v = .bool b
 | .int k n, v => v = .int k n
 | .str s, v => v = .string ⟨s.toArray⟩
 | .aR, v => v = .pointer none
 | .aq, v => v = .slice none 0 0
 | .iK, v => v = .map none
 | .cx, v => v = .nilFunc
 | .cg, v => v = .nilIface
 | .box b off, v => ∃ x, g.box b = some x /\ v = .pointer (some ⟨x.ax, off, none⟩)
 | .bL l, v => ∃ ax off vs, v = .pointer (some ⟨ax, off, none⟩) /\ gQ g ax off vs /\ ar g l vs
 | .vec n cap l, v => ∃ ax off c vs, v = .slice (some ⟨ax, off, none⟩) n c /\ n <= c /\ c <= maxLen /\ l9 g cap ax off n c /\ gQ g ax off vs /\ ar g l vs
 | .ms b off n fI e, v => ∃ x c, g.box b = some x /\ v = .slice (some ⟨x.ax, off, none⟩) n c /\ n <= c /\ c <= maxLen /\ off + c * fI = x.size /\ x.e = e
 | .mp m, v => ∃ r, g.mp m = some r /\ v = .map (some r)
 | .dL ks vs, v => ∃ r es clock, ∃ l : List MapEntry, v = .map (some r) /\ g.bg r = some (es, clock) /\ l.Perm es.toList /\ kQ ks /\ ar g ks (l.map (·.key)) /\ ar g vs (l.map (·.val))
 | .func fn first captured, v => ∃ fs cs, v = .func fn (List.toArray fs) (List.toArray cs) /\ ar g first fs /\ ar g captured cs
 | .iface t x, v => ∃ u, v = .iface t u /\ ak g x u
 | .agg l, v => ∃ vs, v = .agg (List.toArray vs) /\ (∀ u ∈ vs, u.oneCell' = true) /\ ar g l vs
 | .aL l, v => ∃ vs, v = .tuple (List.toArray vs) /\ ar g l vs
 | .nB o, v => ∃ x, g.place o = some x /\ v = .func (.yield x.ax) #[] #[]
 | .it o, v => ∃ x, g.place o = some x /\ v = .pointer (some ⟨x.ax, 0, none⟩)
 | .any, _ => True
def ar (g : Gh) : List AV -> List Value -> Prop
 | [], vs => vs = []
 | x :: xs, vs => ∃ u us, vs = u :: us /\ ak g x u /\ ar g xs us
end
structure Gh.Le (g g' : Gh) : Prop where
 base : g'.base = g.base
 w0 : g'.w0 = g.w0
 place : ∀ b x, g.place b = some x -> g'.place b = some x
 bq : ∀ b o x, g.bq b o = some x -> g'.bq b o = some x
 bg : ∀ b x, g.bg b = some x -> g'.bg b = some x
 res : ∀ b, g.res b = true -> g'.res b = true
 tu : ∀ b o, b < g.base -> g'.bq b o = g.bq b o
 qD : ∀ b, b < g.base -> g'.bg b = g.bg b
theorem Gh.Le.refl (g : Gh) : Gh.Le g g := ⟨rfl, rfl, fun _ _ h => h, fun _ _ _ h => h, fun _ _ h => h, fun _ h => h, fun _ _ _ => rfl, fun _ _ => rfl⟩
theorem Gh.Le.trans {a b c : Gh} (h : Gh.Le a b) (k : Gh.Le b c) : Gh.Le a c :=
 ⟨k.base.trans h.base, k.w0.trans h.w0, fun _ _ x => k.place _ _ (h.place _ _ x), fun _ _ _ x => k.bq _ _ _ (h.bq _ _ _ x), fun _ _ x => k.bg _ _ (h.bg _ _ x), fun _ x => k.res _ (h.res _ x),
   fun q o hq => (k.tu q o (by rw [h.base]; exact hq)).trans (h.tu q o hq), fun q hq => (k.qD q (by rw [h.base]; exact hq)).trans (h.qD q hq)⟩
structure Gh.ow (g g' : Gh) : Prop where
 place : ∀ b x, g.place b = some x -> g'.place b = some x
 bq : ∀ b o x, g.bq b o = some x -> g'.bq b o = some x
 bg : ∀ b x, g.bg b = some x -> g'.bg b = some x
theorem Gh.ow.tok {g g' : Gh} (h : Gh.ow g g') {b : Nat} {x : Nat × Nat} (hb : g.tok b = some x) : g'.tok b = some x := by
 obtain ⟨p, h1, h2, h3⟩ := Gh.gu.1 hb
 exact Gh.gu.2 ⟨p, h.place _ _ h1, h2, h3⟩
theorem Gh.ow.mp {g g' : Gh} (h : Gh.ow g g') {b x : Nat} (hb : g.mp b = some x) : g'.mp b = some x := by
 obtain ⟨p, h1, h2⟩ := Gh.lg.1 hb
 exact Gh.lg.2 ⟨p, h.place _ _ h1, h2⟩
theorem Gh.Le.r {g g' : Gh} (h : Gh.Le g g') : Gh.ow g g' := ⟨h.place, h.bq, h.bg⟩
theorem Gh.Le.box {g g' : Gh} (h : Gh.Le g g') (b : Nat) (x : Place) (hb : g.box b = some x) : g'.box b = some x := h.place b x hb
theorem Gh.Le.tok {g g' : Gh} (h : Gh.Le g g') (b : Nat) (x : Nat × Nat) (hb : g.tok b = some x) : g'.tok b = some x := h.r.tok hb
theorem Gh.Le.mp {g g' : Gh} (h : Gh.Le g g') (b : Nat) (x : Nat) (hb : g.mp b = some x) : g'.mp b = some x := h.r.mp hb
theorem gQ.da {g g' : Gh} (h : Gh.ow g g') {ax off : Nat} {vs : List Value} (hi : gQ g ax off vs) : gQ g' ax off vs := fun i u hu => h.bq _ _ _ (hi i u hu)
theorem l9.da {g g' : Gh} (h : Gh.ow g g') {cap : ik} {ax off n c : Nat} (hi : l9 g cap ax off n c) : l9 g' cap ax off n c := by
 cases cap with
 | full => exact hi
 | own τ => exact ⟨hi.1, h.tok hi.2⟩
 | gq => trivial
mutual
theorem ak.da {g g' : Gh} (h : Gh.ow g g') : ∀ (x : AV) (v : Value), ak g x v -> ak g' x v
 | .bool _, _, hr => hr
 | .int _ _, _, hr => hr
 | .str _, _, hr => hr
 | .aR, _, hr => hr
 | .aq, _, hr => hr
 | .iK, _, hr => hr
 | .cx, _, hr => hr
 | .cg, _, hr => hr
 | .box _ _, _, hr => by
   simp only [ak] at hr ⊢
   obtain ⟨x, hx, hv⟩ := hr
   exact ⟨x, h.place _ _ hx, hv⟩
 | .bL l, _, hr => by
   simp only [ak] at hr ⊢
   obtain ⟨ax, off, vs, hv, hi, hl⟩ := hr
   exact ⟨ax, off, vs, hv, hi.da h, ar.da h l vs hl⟩
 | .vec n cap l, _, hr => by
   simp only [ak] at hr ⊢
   obtain ⟨ax, off, c, vs, hv, h1, h2, hc, hi, hl⟩ := hr
   exact ⟨ax, off, c, vs, hv, h1, h2, hc.da h, hi.da h, ar.da h l vs hl⟩
 | .ms _ _ _ _ _, _, hr => by
   simp only [ak] at hr ⊢
   obtain ⟨x, c, hx, r⟩ := hr
   exact ⟨x, c, h.place _ _ hx, r⟩
 | .mp _, _, hr => by
   simp only [ak] at hr ⊢
   obtain ⟨x, hx, hv⟩ := hr
   exact ⟨x, h.mp hx, hv⟩
 | .dL ks vs, _, hr => by
   simp only [ak] at hr ⊢
   obtain ⟨r, es, c, l, hv, he, hp, hs, h1, h2⟩ := hr
   exact ⟨r, es, c, l, hv, h.bg _ _ he, hp, hs, ar.da h ks _ h1, ar.da h vs _ h2⟩
 | .func fn first captured, _, hr => by
   simp only [ak] at hr ⊢
   obtain ⟨fs, cs, hv, h1, h2⟩ := hr
   exact ⟨fs, cs, hv, ar.da h first _ h1, ar.da h captured _ h2⟩
 | .iface t x, _, hr => by
   simp only [ak] at hr ⊢
   obtain ⟨u, hv, h1⟩ := hr
   exact ⟨u, hv, ak.da h x _ h1⟩
 | .agg l, _, hr => by
   simp only [ak] at hr ⊢
   obtain ⟨vs, hv, h0, h1⟩ := hr
   exact ⟨vs, hv, h0, ar.da h l _ h1⟩
 | .aL l, _, hr => by
   simp only [ak] at hr ⊢
   obtain ⟨vs, hv, h1⟩ := hr
   exact ⟨vs, hv, ar.da h l _ h1⟩
 | .nB o, _, hr => by
   simp only [ak] at hr ⊢
   obtain ⟨x, hx, hv⟩ := hr
   exact ⟨x, h.place _ _ hx, hv⟩
 | .it o, _, hr => by
   simp only [ak] at hr ⊢
   obtain ⟨x, hx, hv⟩ := hr
   exact ⟨x, h.place _ _ hx, hv⟩
 | .any, _, _ => by simp only [ak]
theorem ar.da {g g' : Gh} (h : Gh.ow g g') : ∀ (l : List AV) (vs : List Value), ar g l vs -> ar g' l vs
 | [], _, hr => by simpa only [ar] using hr
 | x :: xs, _, hr => by
   simp only [ar] at hr ⊢
   obtain ⟨u, us, hv, h1, h2⟩ := hr
   exact ⟨u, us, hv, ak.da h x _ h1, ar.da h xs _ h2⟩
end
theorem gQ.mono {g g' : Gh} (h : Gh.Le g g') {ax off : Nat} {vs : List Value} (hi : gQ g ax off vs) : gQ g' ax off vs := hi.da h.r
theorem l9.mono {g g' : Gh} (h : Gh.Le g g') {cap : ik} {ax off n c : Nat} (hi : l9 g cap ax off n c) : l9 g' cap ax off n c := hi.da h.r
theorem ak.mono {g g' : Gh} (h : Gh.Le g g') (x : AV) (v : Value) (hr : ak g x v) : ak g' x v := ak.da h.r x v hr
theorem ar.mono {g g' : Gh} (h : Gh.Le g g') (l : List AV) (vs : List Value) (hr : ar g l vs) : ar g' l vs := ar.da h.r l vs hr
theorem ar.length {g : Gh} : ∀ {l : List AV} {vs : List Value}, ar g l vs -> vs.length = l.length
 | [], _, h => by simp only [ar] at h; simp [h]
 | _ :: xs, _, h => by
   simp only [ar] at h
   obtain ⟨u, us, rfl, _, h2⟩ := h
   simp [ar.length h2]
theorem ar.append {g : Gh} : ∀ {l l' : List AV} {vs vs' : List Value}, ar g l vs -> ar g l' vs' -> ar g (l ++ l') (vs ++ vs')
 | [], _, _, _, h, h' => by simp only [ar] at h; subst h; simpa using h'
 | _ :: xs, _, _, _, h, h' => by
   simp only [ar, jn] at h ⊢
   obtain ⟨u, us, rfl, h1, h2⟩ := h
   exact ⟨u, us ++ _, rfl, h1, ar.append h2 h'⟩
theorem ar.get {g : Gh} : ∀ {l : List AV} {vs : List Value} {i : Nat} {x : AV}, ar g l vs -> l[i]? = some x -> ∃ v, vs[i]? = some v /\ ak g x v
 | [], _, _, _, _, hx => by simp at hx
 | y :: xs, _, 0, x, h, hx => by
   simp only [ar] at h
   obtain ⟨u, us, rfl, h1, h2⟩ := h
   simp at hx; subst hx; exact ⟨u, rfl, h1⟩
 | y :: xs, _, i + 1, x, h, hx => by
   simp only [ar] at h
   obtain ⟨u, us, rfl, h1, h2⟩ := h
   simp at hx
   obtain ⟨v, hv, hr⟩ := ar.get h2 hx
   exact ⟨v, by simpa using hv, hr⟩
theorem ar.drop {g : Gh} : ∀ {l : List AV} {vs : List Value} (n : Nat), ar g l vs -> ar g (l.drop n) (vs.drop n)
 | _, _, 0, h => by simpa using h
 | [], _, n + 1, h => by simp only [ar] at h; subst h; simp [ar]
 | _ :: xs, _, n + 1, h => by
   simp only [ar] at h
   obtain ⟨u, us, rfl, h1, h2⟩ := h
   simpa using ar.drop n h2
theorem ar.take {g : Gh} : ∀ {l : List AV} {vs : List Value} (n : Nat), ar g l vs -> ar g (l.take n) (vs.take n)
 | _, _, 0, _ => by simp [ar]
 | [], _, n + 1, h => by simp only [ar] at h; subst h; simp [ar]
 | _ :: xs, _, n + 1, h => by
   simp only [ar] at h
   obtain ⟨u, us, rfl, h1, h2⟩ := h
   simp only [List.take_succ_cons, ar]
   exact ⟨u, _, rfl, h1, ar.take n h2⟩
theorem ar.wW {g : Gh} : ∀ {l : List AV} {vs : List Value}, vs.length = l.length -> (∀ (i : Nat) (x : AV) (v : Value), l[i]? = some x -> vs[i]? = some v -> ak g x v) -> ar g l vs
 | [], vs, hl, _ => by simp only [ar]; simpa using hl
 | x :: xs, [], hl, _ => by simp at hl
 | x :: xs, v :: vs, hl, h => by
   simp only [ar]
   exact ⟨v, vs, rfl, h 0 x v rfl rfl, ar.wW (by simpa using hl) fun i x v hx hv => h (i + 1) x v (by simpa using hx) (by simpa using hv)⟩
def re (g : Gh) (ks vs : List AV) (es : Array MapEntry) : Prop := ∃ l : List MapEntry, l.Perm es.toList /\ kQ ks /\ ar g ks (l.map (·.key)) /\ ar g vs (l.map (·.val))
def wb (g : Gh) (es : Array MapEntry) (seen : Array Nat) (rest : List (AV × AV)) (cur : Option (AV × AV)) : Prop :=
 (∃ l : List MapEntry, l.Perm (es.toList.filter fun e => !seen.contains e.born) /\ ar g (rest.map (·.1)) (l.map (·.key)) /\ ar g (rest.map (·.2)) (l.map (·.val))) /\
 (match cur with
  | none => True
  | some (k, v) => ∃ e ∈ es.toList, seen.back? = some e.born /\ ak g k e.key /\ ak g v e.val)
def gR (g : Gh) (w : World) (p : Place) : Live -> Prop
 | .box l => ∃ cur vs rest, w.heap[p.ax]? = some (.cells cur p.e (0, 0)) /\ cur.size = p.size /\ cur.toList = vs ++ rest /\ ar g l vs /\ (∀ u ∈ cur.toList, u.oneCell' = true) /\ (∀ o, g.bq p.ax o = none)
 | .tok t => ∃ cur, w.heap[p.ax]? = some (.cells cur t.e (0, 0)) /\ cur.size = p.size * t.size /\ t.n <= p.size /\ p.size <= maxLen /\ (∀ o, t.n * t.size <= o -> g.bq p.ax o = none)
 | .mp ks vs => ∃ es clock, w.heap[p.ax]? = some (.map es clock) /\ gx es clock /\ re g ks vs es /\ g.bg p.ax = none
 | .loop L => ∃ fn tmps defers, w.heap[p.ax]? = some (.loop { state := L.state, pending := L.dN, fn, tmps, params := L.params, assign := L.assign, body := L.body, defers }) /\ tmps.size = L.nt /\ ∀ t, ak g (L.ρ t) (tmps.getD t undef)
 | .iter rest cur => ∃ m es clock seen, w.heap[p.ax]? = some (.mapIter (some m) clock seen clock) /\ g.bg m = some (es, clock) /\ wb g es seen rest cur
 | .va t l => p.e = t /\ p.size = l.length /\ ∃ cur vs rest, w.heap[p.ax]? = some (.cells cur p.e (0, 0)) /\ cur.size = p.size /\ cur.toList = vs ++ rest /\ ar g l vs /\ (∀ u ∈ cur.toList, u.oneCell' = true) /\ (∀ o, g.bq p.ax o = none)
structure St where
 live : Nat -> Option Live
 nb : Option Nat
def St.box (U : St) (b : Nat) : Option (List AV) := match U.live b with | some (.box l) => some l | some (.va _ l) => some l | _ => none
def St.tok (U : St) (b : Nat) : Option Tok := match U.live b with | some (.tok t) => some t | _ => none
def St.mp (U : St) (b : Nat) : Option (List AV × List AV) := match U.live b with | some (.mp ks vs) => some (ks, vs) | _ => none
def St.loop (U : St) (b : Nat) : Option eg := match U.live b with | some (.loop L) => some L | _ => none
def St.iter (U : St) (b : Nat) : Option (List (AV × AV) × Option (AV × AV)) := match U.live b with | some (.iter r c) => some (r, c) | _ => none
theorem St.oy {U : St} {b : Nat} {l : List AV} (h : U.box b = some l) : ∃ x, U.live b = some x /\ ∀ g w p, gR g w p x -> gR g w p (.box l) := by
 unfold St.box at h
 split at h
 · rename_i l' hl; cases h; exact ⟨_, hl, fun _ _ _ h => h⟩
 · rename_i t l' hl; cases h; exact ⟨_, hl, fun _ _ _ h => h.2.2⟩
 · cases h
theorem St.gu {U : St} {b : Nat} {l : Tok} : U.tok b = some l ↔ U.live b = some (.tok l) := by unfold St.tok; split <;> simp_all
theorem St.lg {U : St} {b : Nat} {l : List AV × List AV} : U.mp b = some l ↔ U.live b = some (.mp l.1 l.2) := by unfold St.mp; split <;> simp_all [Prod.ext_iff]
theorem St.jg {U : St} {b : Nat} {l : eg} : U.loop b = some l ↔ U.live b = some (.loop l) := by unfold St.loop; split <;> simp_all
theorem St.rF {U : St} {b : Nat} {l : List (AV × AV) × Option (AV × AV)} : U.iter b = some l ↔ U.live b = some (.iter l.1 l.2) := by unfold St.iter; split <;> simp_all [Prod.ext_iff]
def St.set (U : St) (b : Nat) (x : Live) : St := { U with live := fun y => if y = b then some x else U.live y }
def St.del (U : St) (b : Nat) : St := { U with live := fun y => if y = b then none else U.live y }
def St.new (U : St) (b : Nat) (x : Live) : St := { live := fun y => if y = b then some x else U.live y, nb := U.nb.map (· + 1) }
def St.cj (U : St) (b : Nat) : Prop := U.live b = none /\ ∀ n, U.nb = some n -> b = n
structure aQ (g : Gh) (U : St) (w : World) : Prop where
 below : Below g.base g.w0 w
 le : g.base <= w.heap.size
 bq : ∀ ax o u, g.bq ax o = some u -> w.cell? ⟨ax, o, none⟩ = some u /\ u.oneCell' = true
 bg : ∀ r es c, g.bg r = some (es, c) -> w.heap[r]? = some (.map es c) /\ gx es c
 live : ∀ b x, U.live b = some x -> ∃ p, g.place b = some p /\ g.base <= p.ax /\ gR g w p x
 apart : ∀ b b' x x' p p', U.live b = some x -> U.live b' = some x' -> g.place b = some p -> g.place b' = some p' -> p.ax = p'.ax -> b = b'
 res : ∀ r, g.res r = true -> g.base <= r /\ w.heap[r]? = some (.deferred (some []))
 fin : ∃ N, (∀ n, U.nb = some n -> N = n) /\ ∀ b, N <= b -> g.place b = none
end Go.Rip
namespace Go.Rip
open Go.RowKit
structure St.Le (U ad : St) : Prop where
 live : ∀ b x, U.live b = some x -> ad.live b = some x
 nb : ∀ n, U.nb = some n -> ad.nb = some n
theorem St.Le.refl (U : St) : St.Le U U := ⟨fun _ _ h => h, fun _ h => h⟩
theorem St.Le.trans {a b c : St} (h : St.Le a b) (k : St.Le b c) : St.Le a c := ⟨fun _ _ x => k.live _ _ (h.live _ _ x), fun _ x => k.nb _ (h.nb _ x)⟩
theorem St.oz (U : St) (b : Nat) : St.Le (U.del b) U := ⟨fun x y hx => by simp only [St.del] at hx; split at hx <;> simp_all, fun _ h => h⟩
theorem aQ.weaken {g : Gh} {U ad : St} {w : World} (h : aQ g ad w) (hl : St.Le U ad) : aQ g U w where
 below := h.below
 le := h.le
 bq := h.bq
 bg := h.bg
 live := fun b l hb => h.live b l (hl.live _ _ hb)
 apart := fun b b' l l' x x' h1 h2 => h.apart b b' l l' x x' (hl.live _ _ h1) (hl.live _ _ h2)
 res := h.res
 fin := let ⟨N, h1, h2⟩ := h.fin; ⟨N, fun n hn => h1 n (hl.nb n hn), h2⟩
theorem zC {w w' : World} {k : Nat} (h : w'.heap[k]? = w.heap[k]?) (o : Nat) : w'.cell? ⟨k, o, none⟩ = w.cell? ⟨k, o, none⟩ := by simp [World.cell?, h]
theorem aQ.GV {g : Gh} {U : St} {w : World} (h : aQ g U w) {ax o : Nat} {u : Value} (hi : g.bq ax o = some u) : ax < w.heap.size :=
 World.block_lt_of_cell? w ⟨ax, o, none⟩ (h.bq _ _ _ hi).1
theorem aQ.Dy {g : Gh} {U : St} {w : World} (h : aQ g U w) {r : Nat} {x : Array MapEntry × Nat} (hi : g.bg r = some x) : r < w.heap.size :=
 (gD.1 (h.bg r x.1 x.2 hi).1).1
theorem aQ.ur {g : Gh} {U : St} {w : World} (h : aQ g U w) {q : Nat} (hq : w.heap.size <= q) (o : Nat) : g.bq q o = none := by
 cases e : g.bq q o with
 | none => rfl
 | some u => have := h.GV e; omega
theorem aQ.rz {g : Gh} {U : St} {w : World} (h : aQ g U w) {q : Nat} (hq : w.heap.size <= q) : g.bg q = none := by
 cases e : g.bg q with
 | none => rfl
 | some u => have := h.Dy e; omega
theorem re.da {g g' : Gh} (h : Gh.ow g g') {ks vs : List AV} {es : Array MapEntry} (hm : re g ks vs es) : re g' ks vs es :=
 let ⟨l, h1, h2, h3, h4⟩ := hm; ⟨l, h1, h2, h3.da h, h4.da h⟩
theorem wb.da {g g' : Gh} (h : Gh.ow g g') {es : Array MapEntry} {seen : Array Nat} {rest : List (AV × AV)} {cur : Option (AV × AV)} (hm : wb g es seen rest cur) : wb g' es seen rest cur := by
 obtain ⟨⟨l, h1, h2, h3⟩, h4⟩ := hm
 refine ⟨⟨l, h1, h2.da h, h3.da h⟩, ?_⟩
 cases cur with
 | none => trivial
 | some kv => obtain ⟨e, k1, k2, k3, k4⟩ := h4; exact ⟨e, k1, k2, k3.da h, k4.da h⟩
theorem gR.frame {g g' : Gh} {w w' : World} {p : Place} {x : Live} (h : gR g w p x) (hl : Gh.ow g g') (hb : w'.heap[p.ax]? = w.heap[p.ax]?) (hi : ∀ o, g'.bq p.ax o = g.bq p.ax o) (hm : g'.bg p.ax = g.bg p.ax) : gR g' w' p x := by
 cases x with
 | box l => obtain ⟨cur, vs, rest, h1, h2, h3, h4, h5, h6⟩ := h; exact ⟨cur, vs, rest, hb.trans h1, h2, h3, h4.da hl, h5, fun o => (hi o).trans (h6 o)⟩
 | tok t => obtain ⟨cur, h1, h2, h3, h4, h5⟩ := h; exact ⟨cur, hb.trans h1, h2, h3, h4, fun o ho => (hi o).trans (h5 o ho)⟩
 | mp ks vs => obtain ⟨es, clock, h1, h2, h3, h4⟩ := h; exact ⟨es, clock, hb.trans h1, h2, h3.da hl, hm.trans h4⟩
 | loop L => obtain ⟨fn, tmps, defers, h1, h2, h3⟩ := h; exact ⟨fn, tmps, defers, hb.trans h1, h2, fun t => (h3 t).da hl⟩
 | iter rest cur => obtain ⟨m, es, clock, seen, h1, h2, h3⟩ := h; exact ⟨m, es, clock, seen, hb.trans h1, hl.bg _ _ h2, h3.da hl⟩
 | va t l => obtain ⟨e1, e2, cur, vs, rest, h1, h2, h3, h4, h5, h6⟩ := h; exact ⟨e1, e2, cur, vs, rest, hb.trans h1, h2, h3, h4.da hl, h5, fun o => (hi o).trans (h6 o)⟩
theorem gR.lt {g : Gh} {w : World} {p : Place} {x : Live} (h : gR g w p x) : p.ax < w.heap.size := by
 have : ∃ o, w.heap[p.ax]? = some o := by
  cases x with
  | box l => obtain ⟨cur, vs, rest, h1, _⟩ := h; exact ⟨_, h1⟩
  | tok t => obtain ⟨cur, h1, _⟩ := h; exact ⟨_, h1⟩
  | mp ks vs => obtain ⟨es, clock, h1, _⟩ := h; exact ⟨_, h1⟩
  | loop L => obtain ⟨fn, tmps, defers, h1, _⟩ := h; exact ⟨_, h1⟩
  | iter rest cur => obtain ⟨m, es, clock, seen, h1, _⟩ := h; exact ⟨_, h1⟩
  | va t l => obtain ⟨_, _, cur, vs, rest, h1, _⟩ := h; exact ⟨_, h1⟩
 exact (gD.1 this.choose_spec).1
theorem gR.DG {g : Gh} {w : World} {p : Place} {x : Live} (h : gR g w p x) {r : Nat} {ds : Option (List Deferred)} (hr : w.heap[r]? = some (.deferred ds)) : p.ax ≠ r := by
 intro e
 subst e
 cases x with
 | box l => obtain ⟨cur, vs, rest, h1, _⟩ := h; rw [hr] at h1; cases h1
 | tok t => obtain ⟨cur, h1, _⟩ := h; rw [hr] at h1; cases h1
 | mp ks vs => obtain ⟨es, clock, h1, _⟩ := h; rw [hr] at h1; cases h1
 | loop L => obtain ⟨fn, tmps, defers, h1, _⟩ := h; rw [hr] at h1; cases h1
 | iter rest cur => obtain ⟨m, es, clock, seen, h1, _⟩ := h; rw [hr] at h1; cases h1
 | va t l => obtain ⟨_, _, cur, vs, rest, h1, _⟩ := h; rw [hr] at h1; cases h1
theorem aQ.change {g g' : Gh} {U : St} {w w' : World} (h : aQ g U w) (B : Nat) (hB : g.base <= B) (hle : Gh.Le g g') (oK : g'.place = g.place) (hres : g'.res = g.res)
 (hw : w'.os = w.os /\ w'.tape = w.tape /\ w'.output = w.output /\ w.heap.size <= w'.heap.size) (hk : ∀ k, k ≠ B -> k < w.heap.size -> w'.heap[k]? = w.heap[k]?)
 (jF : ∀ q o, q ≠ B -> g'.bq q o = g.bq q o) (Mn : ∀ q, q ≠ B -> g'.bg q = g.bg q)
 (hi : ∀ o u, g'.bq B o = some u -> w'.cell? ⟨B, o, none⟩ = some u /\ u.oneCell' = true) (hm : ∀ es c, g'.bg B = some (es, c) -> w'.heap[B]? = some (.map es c) /\ gx es c)
 (fB : ∀ b x p, U.live b = some x -> g.place b = some p -> p.ax ≠ B) (TD : g.res B = false) : aQ g' U w' := by
 have aH : ∀ k o, w.heap[k]? = some o -> k ≠ B -> w'.heap[k]? = some o := fun k o UR hn => by rw [hk k hn (gD.1 UR).1]; exact UR
 exact {
  below := by
   rw [hle.base, hle.w0]
   exact h.below.trans ⟨hw.1, hw.2.1, hw.2.2.1, hw.2.2.2, fun k UQ => hk k (by omega) (by have := h.le; omega)⟩
  le := by rw [hle.base]; exact Nat.le_trans h.le hw.2.2.2
  bq := fun q o u hu => by
   by_cases hq : q = B
   · subst hq; exact hi o u hu
   · rw [jF q o hq] at hu
     rw [zC (hk q hq (h.GV hu))]; exact h.bq _ _ _ hu
  bg := fun r es c hr => by
   by_cases hq : r = B
   · subst hq; exact hm es c hr
   · rw [Mn r hq] at hr
     rw [hk r hq (h.Dy hr)]; exact h.bg _ _ _ hr
  live := fun b x hb => by
   obtain ⟨p, h1, h2, h3⟩ := h.live b x hb
   have Du := fB b x p hb h1
   refine ⟨p, by rw [oK]; exact h1, by rw [hle.base]; exact h2, h3.frame hle.r (hk _ Du h3.lt) (fun o => jF _ _ Du) (Mn _ Du)⟩
  apart := fun b b' x x' p p' h1 h2 h3 h4 h5 => by rw [oK] at h3 h4; exact h.apart b b' x x' p p' h1 h2 h3 h4 h5
  res := fun r hr => by
   rw [hres] at hr
   obtain ⟨h1, h2⟩ := h.res r hr
   rw [hle.base]
   exact ⟨h1, aH _ _ h2 (fun e => by subst e; rw [TD] at hr; cases hr)⟩
  fin := by rw [oK]; exact h.fin }
theorem aQ.named {g : Gh} {U : St} {w : World} (h : aQ g U w) {b : Nat} {p : Place} {x : Live} (hb : g.place b = some p) (hB : g.base <= p.ax) (hx : gR g w p x)
 (fB : ∀ b' x' p', b' ≠ b -> U.live b' = some x' -> g.place b' = some p' -> p'.ax ≠ p.ax) : aQ g (U.set b x) w where
 below := h.below
 le := h.le
 bq := h.bq
 bg := h.bg
 live := fun b' x' dz => by
  simp only [St.set] at dz
  split at dz
  · rename_i e; subst e; cases dz; exact ⟨p, hb, hB, hx⟩
  · exact h.live b' x' dz
 apart := fun b1 b2 x1 x2 p1 p2 h1 h2 h3 h4 h5 => by
  simp only [St.set] at h1 h2
  by_cases e1 : b1 = b <;> by_cases e2 : b2 = b
  · rw [e1, e2]
  · rw [if_neg e2] at h2
    subst e1; rw [hb] at h3; cases h3
    exact absurd h5.symm (fB _ _ _ e2 h2 h4)
  · rw [if_neg e1] at h1
    subst e2; rw [hb] at h4; cases h4
    exact absurd h5 (fB _ _ _ e1 h1 h3)
  · rw [if_neg e1] at h1; rw [if_neg e2] at h2
    exact h.apart _ _ _ _ _ _ h1 h2 h3 h4 h5
 res := h.res
 fin := h.fin
def Gh.jS (g : Gh) (b : Nat) (p : Place) : Gh := { g with place := fun y => if y = b then some p else g.place y }
theorem Gh.fY (g : Gh) (b : Nat) (p : Place) : (g.jS b p).place b = some p := by simp [Gh.jS]
theorem Gh.jz (g : Gh) {b y : Nat} (p : Place) (h : y ≠ b) : (g.jS b p).place y = g.place y := by simp [Gh.jS, h]
theorem Gh.uW {g : Gh} {b : Nat} (p : Place) (h : g.place b = none) : Gh.Le g (g.jS b p) :=
 ⟨rfl, rfl, fun y x hy => by rw [Gh.jz _ _ (fun e => by subst e; rw [h] at hy; cases hy)]; exact hy, fun _ _ _ h => h, fun _ _ h => h, fun _ h => h, fun _ _ _ => rfl, fun _ _ => rfl⟩
theorem aQ.newName {g : Gh} {U : St} {w : World} (h : aQ g U w) (p : Place) (hB : g.base <= p.ax) (fB : ∀ b' x' p', U.live b' = some x' -> g.place b' = some p' -> p'.ax ≠ p.ax) :
 ∃ b, U.cj b /\ Gh.Le g (g.jS b p) /\ ∀ x, gR (g.jS b p) w p x -> aQ (g.jS b p) (U.new b x) w := by
 obtain ⟨N, UE, UF⟩ := h.fin
 have yX : g.place N = none := UF N (cA _)
 have UX : U.live N = none := by
  cases e : U.live N with
  | none => rfl
  | some x => obtain ⟨p, h1, _⟩ := h.live N x e; rw [yX] at h1; cases h1
 refine ⟨N, ⟨UX, UE⟩, Gh.uW p yX, fun x hx => ?_⟩
 have hle := Gh.uW (g := g) p yX
 have bX : ∀ b x, U.live b = some x -> b ≠ N := fun b x hb e => by subst e; rw [UX] at hb; cases hb
 exact {
  below := h.below
  le := h.le
  bq := h.bq
  bg := h.bg
  live := fun b' x' dz => by
   simp only [St.new] at dz
   split at dz
   · rename_i e; subst e; cases dz; exact ⟨p, Gh.fY _ _ _, hB, hx⟩
   · obtain ⟨p', h1, h2, h3⟩ := h.live b' x' dz
     exact ⟨p', hle.place _ _ h1, h2, h3.frame hle.r rfl (fun _ => rfl) rfl⟩
  apart := fun b1 b2 x1 x2 p1 p2 h1 h2 h3 h4 h5 => by
   simp only [St.new] at h1 h2
   by_cases e1 : b1 = N <;> by_cases e2 : b2 = N
   · rw [e1, e2]
   · rw [if_neg e2] at h2; rw [Gh.jz _ _ e2] at h4
     subst e1; rw [Gh.fY] at h3; cases h3
     exact absurd h5.symm (fB _ _ _ h2 h4)
   · rw [if_neg e1] at h1; rw [Gh.jz _ _ e1] at h3
     subst e2; rw [Gh.fY] at h4; cases h4
     exact absurd h5 (fB _ _ _ h1 h3)
   · rw [if_neg e1] at h1; rw [if_neg e2] at h2
     rw [Gh.jz _ _ e1] at h3; rw [Gh.jz _ _ e2] at h4
     exact h.apart _ _ _ _ _ _ h1 h2 h3 h4 h5
  res := h.res
  fin := ⟨N + 1, fun n hn => by
   simp only [St.new, kN] at hn
   obtain ⟨m, hm, rfl⟩ := hn
   rw [UE m hm], fun b hb => by rw [Gh.jz _ _ (by omega)]; exact UF b (by omega)⟩ }
theorem aQ.grow {g : Gh} {U : St} {w w' : World} (h : aQ g U w) (hg : w.grownBy w' none) : aQ g U w' := by
 have hb : ∀ k, k < w.heap.size -> w'.heap[k]? = w.heap[k]? := fun k hk => hg.block k hk (by simp)
 refine h.change w.heap.size h.le (Gh.Le.refl g) rfl rfl ⟨hg.os, hg.tape, hg.output, hg.size⟩ (fun k _ hk => hb k hk) (fun _ _ _ => rfl) (fun _ _ => rfl) (fun o u hu => ?_) (fun es c hr => ?_) (fun b x p h1 h2 => ?_) ?_
 · rw [h.ur (cA _)] at hu; cases hu
 · rw [h.rz (cA _)] at hr; cases hr
 · obtain ⟨p', k1, _, k3⟩ := h.live b x h1
   rw [h2] at k1; cases k1
   exact Nat.ne_of_lt k3.lt
 · cases e : g.res w.heap.size with
   | false => rfl
   | true => have := (gD.1 (h.res _ e).2).1; omega
theorem gy (w : World) : w.grownBy w.drew none := ⟨rfl, rfl, rfl, cA _, fun _ _ _ => rfl⟩
theorem aQ.yq {g : Gh} {U : St} {w : World} (h : aQ g U w) {q : Nat} (hq : w.heap.size <= q) : g.res q = false := by
 cases e : g.res q with
 | false => rfl
 | true => have := (gD.1 (h.res _ e).2).1; omega
theorem aQ.rP {g : Gh} {U : St} {w : World} (h : aQ g U w) {b : Nat} {x : Live} {p : Place} (hb : U.live b = some x) (hp : g.place b = some p) : p.ax < w.heap.size := by
 obtain ⟨p', k1, _, k3⟩ := h.live b x hb
 rw [hp] at k1; cases k1
 exact k3.lt
theorem aQ.o0 {g : Gh} {U : St} {w : World} (h : aQ g U w) {b : Nat} {x : Live} {p : Place} (hb : U.live b = some x) (hp : g.place b = some p) : g.res p.ax = false := by
 cases e : g.res p.ax with
 | false => rfl
 | true =>
   obtain ⟨p', k1, _, k3⟩ := h.live b x hb
   rw [hp] at k1; cases k1
   exact absurd rfl (k3.DG (h.res _ e).2)
theorem aQ.oR {g : Gh} {U : St} {w : World} (h : aQ g U w) (o : Obj) (e : TypeId) (size : Nat) (x : Live)
 (hx : ∀ g', Gh.Le g g' -> (∀ o, g'.bq w.heap.size o = none) -> g'.bg w.heap.size = none -> gR g' (w.alloc o) ⟨w.heap.size, e, size⟩ x) :
 ∃ b g', U.cj b /\ Gh.Le g g' /\ g'.place b = some ⟨w.heap.size, e, size⟩ /\ aQ g' (U.new b x) (w.alloc o) := by
 have hs := h.grow (w.grownBy_alloc o none)
 obtain ⟨b, h1, h2, h3⟩ := hs.newName ⟨w.heap.size, e, size⟩ h.le (fun b' x' p' k1 k2 => Nat.ne_of_lt (h.rP k1 k2))
 exact ⟨b, _, h1, h2, Gh.fY _ _ _, h3 x (hx _ h2 (fun o => h.ur (cA _) o) (h.rz (cA _)))⟩
end Go.Rip
namespace Go.Rip
open Go.RowKit
def St.bC (U : St) (b : Nat) (l : List AV) : St := U.set b (.box l)
def St.TX (U : St) (b : Nat) (kv : List AV × List AV) : St := U.set b (.mp kv.1 kv.2)
theorem aQ.box {g : Gh} {U : St} {w : World} (h : aQ g U w) (b : Nat) (l : List AV) (hb : U.box b = some l) : ∃ x cur vs rest, g.box b = some x /\ g.base <= x.ax /\ w.heap[x.ax]? = some (.cells cur x.e (0, 0)) /\ cur.size = x.size /\ cur.toList = vs ++ rest /\ ar g l vs /\
 (∀ u ∈ cur.toList, u.oneCell' = true) /\ (∀ o, g.bq x.ax o = none) := by
 obtain ⟨y, hy, QZ⟩ := St.oy hb
 obtain ⟨p, h1, h2, hp⟩ := h.live b _ hy
 obtain ⟨cur, vs, rest, h3, h4, h5, h6, h7, h8⟩ := QZ _ _ _ hp
 exact ⟨p, cur, vs, rest, h1, h2, h3, h4, h5, h6, h7, h8⟩
theorem aQ.tok {g : Gh} {U : St} {w : World} (h : aQ g U w) (τ : Nat) (t : Tok) (ht : U.tok τ = some t) : ∃ ax c cur, g.tok τ = some (ax, c) /\ g.base <= ax /\ w.heap[ax]? = some (.cells cur t.e (0, 0)) /\ cur.size = c * t.size /\ t.n <= c /\ c <= maxLen /\
 (∀ o, t.n * t.size <= o -> g.bq ax o = none) := by
 obtain ⟨p, h1, h2, cur, h3, h4, h5, h6, h7⟩ := h.live τ _ (St.gu.1 ht)
 exact ⟨p.ax, p.size, cur, Gh.gu.2 ⟨p, h1, rfl, rfl⟩, h2, h3, h4, h5, h6, h7⟩
theorem aQ.mp {g : Gh} {U : St} {w : World} (h : aQ g U w) (m : Nat) (kv : List AV × List AV) (hm : U.mp m = some kv) : ∃ r es clock, g.mp m = some r /\ g.base <= r /\ w.heap[r]? = some (.map es clock) /\ gx es clock /\ re g kv.1 kv.2 es /\ g.bg r = none := by
 obtain ⟨p, h1, h2, es, clock, h3, h4, h5, h6⟩ := h.live m _ (St.lg.1 hm)
 exact ⟨p.ax, es, clock, Gh.lg.2 ⟨p, h1, rfl⟩, h2, h3, h4, h5, h6⟩
theorem aQ.rewrite {g : Gh} {U : St} {w w' : World} (h : aQ g U w) {b : Nat} {x x' : Live} {p : Place} (hb : U.live b = some x) (hp : g.place b = some p)
 (hw : w'.os = w.os /\ w'.tape = w.tape /\ w'.output = w.output /\ w.heap.size <= w'.heap.size) (hk : ∀ k, k ≠ p.ax -> k < w.heap.size -> w'.heap[k]? = w.heap[k]?)
 (hi : ∀ o, g.bq p.ax o = none) (hm : g.bg p.ax = none) (hx : gR g w' p x') : aQ g (U.set b x') w' := by
 obtain ⟨p', k1, k2, k3⟩ := h.live b x hb
 rw [hp] at k1; cases k1
 have fB : ∀ b' x' p', b' ≠ b -> U.live b' = some x' -> g.place b' = some p' -> p'.ax ≠ p.ax := fun b' x' p' bX h1 h2 e => bX (h.apart _ _ _ _ _ _ h1 hb h2 hp e)
 have hd : ∀ b' x' p', (U.del b).live b' = some x' -> g.place b' = some p' -> p'.ax ≠ p.ax := fun b' x' p' h1 h2 => by
  simp only [St.del] at h1
  split at h1
  · cases h1
  · rename_i e; exact fB _ _ _ e h1 h2
 have h1 := (h.weaken (St.oz U b)).change p.ax k2 (Gh.Le.refl g) rfl rfl hw hk (fun _ _ _ => rfl) (fun _ _ => rfl) (fun o u hu => by rw [hi] at hu; cases hu) (fun es c hr => by rw [hm] at hr; cases hr) hd (h.o0 hb hp)
 have h2 := h1.named hp k2 hx (fun b' x' p' _ q1 q2 => hd b' x' p' q1 q2)
 have e : (U.del b).set b x' = U.set b x' := by
  simp only [St.del, St.set, St.mk.injEq, and_true]
  funext y
  split <;> rfl
 rw [<- e]; exact h2
theorem aQ.cN {g : Gh} {U : St} {w : World} (h : aQ g U w) (e : TypeId) (cur : Array Value) (vs rest : List Value) (l : List AV) (hc : cur.toList = vs ++ rest) (hl : ar g l vs) (h1 : ∀ u ∈ cur.toList, u.oneCell' = true) :
 ∃ b g', U.cj b /\ Gh.Le g g' /\ g'.box b = some ⟨w.heap.size, e, cur.size⟩ /\ aQ g' (U.new b (.box l)) (w.alloc (.cells cur e)) :=
 h.oR (.cells cur e) e cur.size (.box l) fun g' hle hi hm => ⟨cur, vs, rest, heap_alloc_new w _, rfl, hc, hl.mono hle, h1, hi⟩
theorem aQ.Hl {g : Gh} {U : St} {w : World} (h : aQ g U w) (e : TypeId) (cur : Array Value) (vs rest : List Value) (hc : cur.toList = vs ++ rest) (h1 : ∀ u ∈ cur.toList, u.oneCell' = true) :
 ∃ g', Gh.Le g g' /\ gQ g' w.heap.size 0 vs /\ (∀ o, vs.length <= o -> g'.bq w.heap.size o = none) /\ g'.place = g.place /\ aQ g' U (w.alloc (.cells cur e)) := by
 let g' : Gh := { g with bq := fun ax o => if ax = w.heap.size then vs[o]? else g.bq ax o }
 have lA : ∀ o, g'.bq w.heap.size o = vs[o]? := fun o => by show (if w.heap.size = w.heap.size then _ else _) = _; rw [if_pos rfl]
 have hold : ∀ ax o, ax ≠ w.heap.size -> g'.bq ax o = g.bq ax o := fun ax o hx => by show (if ax = w.heap.size then _ else _) = _; rw [if_neg hx]
 have hle : Gh.Le g g' := ⟨rfl, rfl, fun _ _ h => h, fun ax o u hu => by
  rw [hold _ _ (fun e => by subst e; rw [h.ur (cA _)] at hu; cases hu)]; exact hu, fun _ _ h => h, fun _ h => h, fun q o hq => hold _ _ (by have := h.le; omega), fun _ _ => rfl⟩
 have hg := w.grownBy_alloc (.cells cur e) none
 refine ⟨g', hle, fun i u hu => by rw [ck, lA]; exact hu, fun o ho => by rw [lA]; simpa using ho, rfl, ?_⟩
 refine h.change w.heap.size h.le hle rfl rfl ⟨hg.os, hg.tape, hg.output, hg.size⟩ (fun k _ hk => hg.block k hk (by simp)) (fun q o hq => hold q o hq) (fun _ _ => rfl) (fun o u hu => ?_) (fun es c hr => ?_) (fun b x p k1 k2 => Nat.ne_of_lt (h.rP k1 k2)) (h.yq (cA _))
 · rw [lA] at hu
   have UK : cur[o]? = some u := by
    rw [<- gE, hc, rW (by
     rcases ga o vs.length with h | h
     · exact h
     · simp [rU h] at hu)]
    exact hu
   exact ⟨by rw [cell_of_row _ _ _ cur e (0, 0) (heap_alloc_new w _)]; exact UK, h1 u (fw (by rw [gE]; exact UK))⟩
 · have : g.bg w.heap.size = some (es, c) := hr
   rw [h.rz (cA _)] at this; cases this
theorem aQ.ju {g : Gh} {U : St} {w : World} (h : aQ g U w) {r : Nat} {c : Array Value} {e : TypeId} {f : Nat × Nat} (hh : w.heap[r]? = some (.cells c e f)) : g.bg r = none := by
 cases e : g.bg r with
 | none => rfl
 | some x => have := (h.bg r x.1 x.2 e).1; rw [hh] at this; cases this
theorem aQ.setRow {g : Gh} {U : St} {w : World} (h : aQ g U w) {b : Nat} {l l' : List AV} {x : Place} (hb : U.box b = some l) (hx : g.box b = some x)
 (cur : Array Value) (vs rest : List Value) (cY : cur.size = x.size) (hc : cur.toList = vs ++ rest) (hl : ar g l' vs) (h1 : ∀ u ∈ cur.toList, u.oneCell' = true) :
 aQ g (U.bC b l') (w.setRow x.ax cur) := by
 obtain ⟨x', PX, vs0, TU, k1, k2, k3, k4, k5, k6, k7, k8⟩ := h.box b l hb
 rw [hx] at k1; cases k1
 obtain ⟨y, hy, _⟩ := St.oy hb
 exact h.rewrite hy hx ⟨rfl, rfl, rfl, by simp⟩ (fun k hk _ => setRow_other _ _ _ _ hk) k8 (h.ju k3) ⟨cur, vs, rest, setRow_heap w x.ax PX cur x.e (0, 0) k3, cY, hc, hl, h1, k8⟩
theorem aQ.TT {g : Gh} {U : St} {w : World} (h : aQ g U w) {b : Nat} {l : List AV} (hb : U.box b = some l) : aQ g (U.bC b l) w := by
 obtain ⟨y, hy, QZ⟩ := St.oy hb
 obtain ⟨p, h1, h2, hp⟩ := h.live b _ hy
 obtain ⟨cur, vs, rest, h3, h4, h5, h6, h7, h8⟩ := QZ _ _ _ hp
 exact h.rewrite hy h1 ⟨rfl, rfl, rfl, cA _⟩ (fun _ _ _ => rfl) h8 (h.ju h3) ⟨cur, vs, rest, h3, h4, h5, h6, h7, h8⟩
theorem yi {cur cur' : Array Value} {a : Nat} {news : List Value} (ha : a <= cur.size) (Dl : cur'.toList = cur.toList.take a ++ news ++ cur.toList.drop (a + news.length)) (o : Nat) :
 cur'[o]? = if o < a then cur[o]? else if o < a + news.length then news[o - a]? else cur[o]? := by
 rw [<- gE, Dl, oY]
 have hl : (cur.toList.take a).length = a := by simp; omega
 by_cases h1 : o < a
 · rw [if_pos h1, rW (by omega), List.getElem?_take, if_pos h1, gE]
 · rw [if_neg h1, List.getElem?_append_right (by omega), hl]
   by_cases h2 : o < a + news.length
   · rw [if_pos h2, rW (by omega)]
   · rw [if_neg h2, List.getElem?_append_right (by omega), List.getElem?_drop, gE]
     congr 1; omega
theorem aQ.RU {g : Gh} {U : St} {w : World} (h : aQ g U w) {τ : Nat} {t : Tok} {ax c : Nat} (ht : U.tok τ = some t) (hg : g.tok τ = some (ax, c))
 (cur cur' : Array Value) (news : List Value) (m : Nat) (Ev : w.heap[ax]? = some (.cells cur t.e (0, 0))) (hlen : news.length = m * t.size) (kI : t.n + m <= c)
 (Dl : cur'.toList = cur.toList.take (t.n * t.size) ++ news ++ cur.toList.drop (t.n * t.size + news.length)) (h1 : ∀ u ∈ news, u.oneCell' = true) :
 ∃ ra g', (U.del τ).cj ra /\ Gh.Le g g' /\ g'.tok ra = some (ax, c) /\ gQ g' ax (t.n * t.size) news /\ aQ g' ((U.del τ).new ra (.tok ⟨t.n + m, t.e, t.size⟩)) (w.setRow ax cur') := by
 obtain ⟨p, hp, Du, U4⟩ := Gh.gu.1 hg
 dsimp only at Du U4
 subst Du U4
 obtain ⟨p', k1, k2, PX, k3, k4, k5, k6, k7⟩ := h.live τ _ (St.gu.1 ht)
 rw [hp] at k1; cases k1
 rw [Ev] at k3; cases k3
 have oE : (t.n + m) * t.size <= cur.size := by rw [k4]; exact Nat.mul_le_mul_right _ kI
 have yW : (t.n + m) * t.size = t.n * t.size + news.length := by rw [hlen, Nat.add_mul]
 have cY : cur'.size = cur.size := by
  have := congrArg List.length Dl
  simp only [nK, eG, List.length_take, List.length_drop] at this
  omega
 let g' : Gh := { g with bq := fun q o => if q = p.ax /\ t.n * t.size <= o /\ o < t.n * t.size + news.length then news[o - t.n * t.size]? else g.bq q o }
 have jF : ∀ q o, q ≠ p.ax -> g'.bq q o = g.bq q o := fun q o hq => by
  show (if _ then _ else _) = _
  rw [if_neg (fun e => hq e.1)]
 have hle : Gh.Le g g' := ⟨rfl, rfl, fun _ _ h => h, fun q o u hu => by
  show (if _ then _ else _) = _
  rw [if_neg (fun e => by obtain ⟨rfl, e2, _⟩ := e; rw [k7 o e2] at hu; cases hu)]; exact hu, fun _ _ h => h, fun _ h => h, fun q o hq => jF _ _ (by omega), fun _ _ => rfl⟩
 have ry := setRow_heap w p.ax cur cur' t.e (0, 0) Ev
 have nF := fun o => yi (cur := cur) (cur' := cur') (a := t.n * t.size) (news := news) (by omega) Dl o
 have fB : ∀ b' x' p', (U.del τ).live b' = some x' -> g.place b' = some p' -> p'.ax ≠ p.ax := fun b' x' p' h1 h2 e => by
  simp only [St.del] at h1
  split at h1
  · cases h1
  · rename_i ne; exact ne (h.apart _ _ _ _ _ _ h1 (St.gu.1 ht) h2 hp e)
 have hs := (h.weaken (St.oz U τ)).change (w' := w.setRow p.ax cur') p.ax k2 hle rfl rfl ⟨rfl, rfl, rfl, by simp⟩ (fun k hk _ => setRow_other _ _ _ _ hk) jF (fun _ _ => rfl) (fun o u hu => by
  rw [cell_of_row _ _ _ cur' t.e (0, 0) ry, nF]
  have kF : (if p.ax = p.ax /\ t.n * t.size <= o /\ o < t.n * t.size + news.length then news[o - t.n * t.size]? else g.bq p.ax o) = some u := hu
  by_cases ho : o < t.n * t.size
  · rw [if_pos ho]
    rw [if_neg (by omega)] at kF
    have := h.bq _ _ _ kF
    rw [cell_of_row _ _ _ cur t.e (0, 0) Ev] at this
    exact this
  · rw [if_neg ho]
    by_cases Mv : o < t.n * t.size + news.length
    · rw [if_pos Mv]
      rw [if_pos ⟨rfl, by omega, Mv⟩] at kF
      exact ⟨kF, h1 u (fw kF)⟩
    · rw [if_neg (by omega)] at kF
      rw [k7 o (by omega)] at kF; cases kF) (fun es c hr => by
  have hr : g.bg p.ax = some (es, c) := hr
  rw [h.ju Ev] at hr; cases hr) fB (h.o0 (St.gu.1 ht) hp)
 obtain ⟨ra, f1, f2, f3⟩ := hs.newName p k2 fB
 refine ⟨ra, _, f1, hle.trans f2, Gh.gu.2 ⟨p, Gh.fY _ _ _, rfl, rfl⟩, fun i u hu => ?_, f3 _ ⟨cur', ry, by rw [cY]; exact k4, kI, k6, fun o ho => ?_⟩⟩
 · have hi : i < news.length := by
    rcases ga i news.length with h | h
    · exact h
    · simp [rU h] at hu
   show (if _ then _ else _) = _
   rw [if_pos ⟨rfl, by omega, by omega⟩, Nat.add_sub_cancel_left]; exact hu
 · have ho : (t.n + m) * t.size <= o := ho
   show (if _ then _ else _) = _
   rw [if_neg (by omega)]; exact k7 o (by omega)
theorem aQ.rename {g : Gh} {U : St} {w : World} (h : aQ g U w) {b : Nat} {x : Live} {p : Place} (hb : U.live b = some x) (hp : g.place b = some p) :
 ∃ b' g', (U.del b).cj b' /\ Gh.Le g g' /\ g'.place b' = some p /\ aQ g' ((U.del b).new b' x) w := by
 obtain ⟨p', k1, k2, k3⟩ := h.live b x hb
 rw [hp] at k1; cases k1
 obtain ⟨b', f1, f2, f3⟩ := (h.weaken (St.oz U b)).newName p k2 (fun b' x' p' h1 h2 e => by
  simp only [St.del] at h1
  split at h1
  · cases h1
  · rename_i ne; exact ne (h.apart _ _ _ _ _ _ h1 hb h2 hp e))
 exact ⟨b', _, f1, f2, Gh.fY _ _ _, f3 x (k3.frame f2.r rfl (fun _ => rfl) rfl)⟩
theorem aQ.jy {g : Gh} {U : St} {w : World} (h : aQ g U w) (e : TypeId) (size n c : Nat) (cur : Array Value) (vs rest : List Value) (hc : cur.toList = vs ++ rest) (h1 : ∀ u ∈ cur.toList, u.oneCell' = true)
 (tq : vs.length = n * size) (oE : cur.size = c * size) (yV : n <= c) (qy : c <= maxLen) :
 ∃ τ g', U.cj τ /\ Gh.Le g g' /\ g'.tok τ = some (w.heap.size, c) /\ gQ g' w.heap.size 0 vs /\ aQ g' (U.new τ (.tok ⟨n, e, size⟩)) (w.alloc (.cells cur e)) := by
 obtain ⟨g1, AS, jF, fB, oK, hs⟩ := h.Hl e cur vs rest hc h1
 obtain ⟨τ, f1, f2, f3⟩ := hs.newName ⟨w.heap.size, e, c⟩ (by rw [AS.base]; exact h.le) (fun b' x' p' k1 k2 => by rw [oK] at k2; exact Nat.ne_of_lt (h.rP k1 k2))
 exact ⟨τ, _, f1, AS.trans f2, Gh.gu.2 ⟨_, Gh.fY _ _ _, rfl, rfl⟩, jF, f3 _ ⟨cur, heap_alloc_new w _, oE, yV, qy, fun o ho => fB o (by rw [tq]; exact ho)⟩⟩
theorem aQ.freeze {g : Gh} {U : St} {w : World} (h : aQ g U w) {b : Nat} {l : List AV} {x : Place} (hb : U.box b = some l) (hx : g.box b = some x) :
 ∃ g' vs, Gh.Le g g' /\ g'.place = g.place /\ gQ g' x.ax 0 vs /\ ar g l vs /\ aQ g' (U.del b) w := by
 obtain ⟨x', cur, vs, rest, k1, k2, k3, k4, k5, k6, k7, k8⟩ := h.box b l hb
 rw [hx] at k1; cases k1
 let g' : Gh := { g with bq := fun q o => if q = x.ax then cur[o]? else g.bq q o }
 have lA : ∀ o, g'.bq x.ax o = cur[o]? := fun o => by show (if x.ax = x.ax then _ else _) = _; rw [if_pos rfl]
 have hold : ∀ q o, q ≠ x.ax -> g'.bq q o = g.bq q o := fun q o hq => by show (if q = x.ax then _ else _) = _; rw [if_neg hq]
 have hle : Gh.Le g g' := ⟨rfl, rfl, fun _ _ h => h, fun q o u hu => by
  rw [hold _ _ (fun e => by subst e; rw [k8] at hu; cases hu)]; exact hu, fun _ _ h => h, fun _ h => h, fun q o hq => hold _ _ (by omega), fun _ _ => rfl⟩
 refine ⟨g', vs, hle, rfl, fun i u hu => by
  have hi : i < vs.length := by
   rcases ga i vs.length with h | h
   · exact h
   · simp [rU h] at hu
  rw [ck, lA, <- gE, k5, rW hi]; exact hu, k6, ?_⟩
 obtain ⟨y, hy, _⟩ := St.oy hb
 refine (h.weaken (St.oz U b)).change x.ax k2 hle rfl rfl ⟨rfl, rfl, rfl, cA _⟩ (fun _ _ _ => rfl) hold (fun _ _ => rfl) (fun o u hu => ?_) (fun es c hr => ?_) (fun b' x' p' h1 h2 e => ?_) (h.o0 hy hx)
 · rw [lA] at hu
   rw [cell_of_row _ _ _ cur x.e (0, 0) k3]
   exact ⟨hu, k7 u (fw (by rw [gE]; exact hu))⟩
 · have hr : g.bg x.ax = some (es, c) := hr
   rw [h.ju k3] at hr; cases hr
 · simp only [St.del] at h1
   split at h1
   · cases h1
   · rename_i ne; exact ne (h.apart _ _ _ _ _ _ h1 hy h2 hx e)
theorem aQ.HI {g : Gh} {U : St} {w : World} (h : aQ g U w) {m r : Nat} {kv kv' : List AV × List AV} {es qs : Array MapEntry} {clock qp : Nat} (hm : U.mp m = some kv) (hg : g.mp m = some r) (hh : w.heap[r]? = some (.map es clock))
 (h1 : re g kv'.1 kv'.2 qs) (h2 : gx qs qp) :
 aQ g (U.TX m kv') { w with heap := w.heap.setIfInBounds r (Obj.map qs qp) } := by
 obtain ⟨p, hp, rfl⟩ := Gh.lg.1 hg
 obtain ⟨p', k1, k2, ZF, ZE, k3, k4, k5, k6⟩ := h.live m _ (St.lg.1 hm)
 rw [hp] at k1; cases k1
 have aH := (gD.1 hh).1
 have bX : ∀ k, k ≠ p.ax -> (w.heap.setIfInBounds p.ax (Obj.map qs qp))[k]? = w.heap[k]? := fun k hk => Array.getElem?_setIfInBounds_ne (Ne.symm hk)
 have lA : (w.heap.setIfInBounds p.ax (Obj.map qs qp))[p.ax]? = some (Obj.map qs qp) := by simp [aH]
 exact h.rewrite (St.lg.1 hm) hp ⟨rfl, rfl, rfl, by simp⟩ (fun k hk _ => bX k hk) (fun o => by
  cases e : g.bq p.ax o with
  | none => rfl
  | some u => have := (h.bq _ _ _ e).1; simp [World.cell?, hh] at this) k6 ⟨qs, qp, lA, h2, h1, k6⟩
theorem aQ.shut {g : Gh} {U : St} {w : World} (h : aQ g U w) {r : Nat} (hr : g.res r = true) : aQ { g with res := fun x => if x = r then false else g.res x } U { w with heap := w.heap.setIfInBounds r (Obj.deferred none) } := by
 obtain ⟨k2, hh⟩ := h.res r hr
 have bX : ∀ k, k ≠ r -> (w.heap.setIfInBounds r (Obj.deferred none))[k]? = w.heap[k]? := fun k hk => Array.getElem?_setIfInBounds_ne (Ne.symm hk)
 have hl : Gh.ow g { g with res := fun x => if x = r then false else g.res x } := ⟨fun _ _ h => h, fun _ _ _ h => h, fun _ _ h => h⟩
 exact {
  below := h.below.trans ⟨rfl, rfl, rfl, by simp, fun k hk => bX k (by have := h.le; omega)⟩
  le := by simpa using h.le
  bq := fun ax o u hi => by
   have gA := h.bq _ _ _ hi
   have : World.cell? { w with heap := w.heap.setIfInBounds r (Obj.deferred none) } ⟨ax, o, none⟩ = w.cell? ⟨ax, o, none⟩ := by
    simp only [World.cell?]
    rw [bX ax (fun e => by subst e; simp [World.cell?, hh] at gA)]
   rw [this]; exact gA
  bg := fun r' es c hr => by
   obtain ⟨h1, h2⟩ := h.bg r' es c hr
   refine ⟨?_, h2⟩
   show (w.heap.setIfInBounds r (Obj.deferred none))[r']? = _
   rw [bX r' (fun e => by subst e; rw [hh] at h1; cases h1)]; exact h1
  live := fun b x hb => by
   obtain ⟨p, h1, h2, h3⟩ := h.live b x hb
   exact ⟨p, h1, h2, h3.frame hl (bX _ (h3.DG hh)) (fun _ => rfl) rfl⟩
  apart := h.apart
  res := fun r' oL => by
   have oL : (if r' = r then false else g.res r') = true := oL
   split at oL
   · cases oL
   · rename_i e
     obtain ⟨q1, q2⟩ := h.res r' oL
     exact ⟨q1, by show (w.heap.setIfInBounds r (Obj.deferred none))[r']? = _; rw [bX r' e]; exact q2⟩
  fin := h.fin }
theorem aQ.N7 {g : Gh} {U : St} {w : World} (h : aQ g U w) : Gh.Le g { g with res := fun x => if x = w.heap.size then true else g.res x } /\ aQ { g with res := fun x => if x = w.heap.size then true else g.res x } U (w.alloc (.deferred (some []))) := by
 have hl : Gh.ow g { g with res := fun x => if x = w.heap.size then true else g.res x } := ⟨fun _ _ h => h, fun _ _ _ h => h, fun _ _ h => h⟩
 refine ⟨⟨rfl, rfl, fun _ _ h => h, fun _ _ _ h => h, fun _ _ h => h, fun b hb => by show (if _ then _ else _) = _; split <;> simp_all, fun _ _ _ => rfl, fun _ _ => rfl⟩, ?_⟩
 have hs := h.grow (w.grownBy_alloc (.deferred (some [])) none)
 exact {
  below := hs.below
  le := hs.le
  bq := hs.bq
  bg := hs.bg
  live := fun b x hb => by
   obtain ⟨p, h1, h2, h3⟩ := hs.live b x hb
   exact ⟨p, h1, h2, h3.frame hl rfl (fun _ => rfl) rfl⟩
  apart := hs.apart
  res := fun r hr => by
   have hr : (if r = w.heap.size then true else g.res r) = true := hr
   split at hr
   · rename_i e; subst e; exact ⟨h.le, heap_alloc_new w _⟩
   · exact hs.res r hr
  fin := hs.fin }
end Go.Rip
namespace Go.Rip
open Go.RowKit
def ic : Value -> Option AV
 | .bool b => some (.bool b)
 | .int k n => some (.int k n)
 | .string s => some (.str s.data.toList)
 | .pointer none => some .aR
 | .slice none 0 0 => some .aq
 | .map none => some .iK
 | .nilFunc => some .cx
 | .nilIface => some .cg
 | _ => none
def JU : Option (List AV) -> AV
 | some l => .agg l
 | none => .any
def yN : Value -> AV
 | .agg cs => JU (cs.toList.mapM ic)
 | .func fn f c => if f.isEmpty && c.isEmpty then .func fn [] [] else .any
 | .tuple vs => if vs.isEmpty then .aL [] else .any
 | v => (ic v).getD .any
def xM : TypeDesc -> Bool
 | .struct _ | .array _ _ => true
 | _ => false
def jJ (P : Program) (t : TypeId) : Option (Bool × Nat) :=
 match P.info? t, P.underlying t with
 | some i, some d => some (xM d, i.size)
 | _, _ => none
def ly (P : Program) (t : TypeId) : Option (List AV) := ((P.info? t).bind (·.zero)).bind fun z => z.cells.toList.mapM ic
def dk (P : Program) (t : TypeId) : Option (TypeId × Nat) :=
 match P.underlying t with
 | some (.slice e) => match P.info? e with
   | some i => match i.zero with
     | some z => if z.cells.size = i.size /\ 0 < i.size /\ i.bytes <= 32768 /\ z.cells.all (·.oneCell') then some (e, i.size) else none
     | none => none
   | none => none
 | _ => none
def s8 (P : Program) (s : TypeId) (f : Nat) : Option Nat :=
 match P.underlying s with
 | some (.struct fields) => match fields[f]? with
   | some x => if P.cellsOf x.type ≠ 0 then some x.offset else none
   | none => none
 | _ => none
def uE (P : Program) (t : TypeId) : Option (List (Nat × Nat)) :=
 match P.underlying t with
 | some (.struct fields) => if fields.all (fun f => (P.info? f.type).isSome) then some (fields.toList.map fun f => (f.offset, P.cellsOf f.type)) else none
 | _ => none
def cX (P : Program) (f : FuncId) : Bool :=
 match P.funcs[f]? with
 | some fn => fn.body.isSome && !(fn.name == "runtime.NumGoroutine")
 | none => false
structure bQ where
 P : Program
 tc : Nat -> AV
 fixed : Nat -> Option (Array Value) := fun _ => none
def eL (C : bQ) (g : Gh) : Prop := (∀ i, ak g (C.tc i) (.pointer (some ⟨i, 0, none⟩))) /\ ∀ i cs, C.fixed i = some cs -> i < g.base /\ ∃ t fr, g.w0.heap[i]? = some (.cells cs t fr)
theorem eL.mono {C : bQ} {g g' : Gh} (h : eL C g) (hl : Gh.Le g g') : eL C g' := ⟨fun i => (h.1 i).mono hl, fun i cs hi => by rw [hl.base, hl.w0]; exact h.2 i cs hi⟩
structure Env where
 get : Nat -> AV
def Env.put (ρ : Env) (d : Nat) (v : AV) : Env := ⟨fun t => if t = d then v else ρ.get t⟩
def Env.dc (ρ : Env) : Option Nat -> AV -> Env
 | some d, v => ρ.put d v
 | none, _ => ρ
def Env.ev (C : bQ) (ρ : Env) : Operand -> AV
 | .tmp t => ρ.get t
 | .const v => yN v
 | .global g => C.tc g
 | .func f => .func (.func f) [] []
def eo (g : Gh) (ρ : Env) (tmps : Array Value) : Prop := ∀ t, ak g (ρ.get t) (tmps.getD t undef)
theorem eo.mono {g g' : Gh} (h : Gh.Le g g') {ρ : Env} {tmps : Array Value} (hr : eo g ρ tmps) : eo g' ρ tmps := fun t => (hr t).mono h
theorem eo.put {g : Gh} {ρ : Env} {tmps : Array Value} (hr : eo g ρ tmps) {d : Nat} {x : AV} {v : Value} (hd : d < tmps.size) (hx : ak g x v) : eo g (ρ.put d x) (tmps.setIfInBounds d v) := fun t => by
 simp only [Env.put]
 by_cases ht : t = d
 · subst ht
   rw [if_pos rfl]
   simpa [Array.getD, hd] using hx
 · rw [if_neg ht]
   have := hr t
   simp only [Array.getD_eq_getD_getElem?] at this ⊢
   rw [Array.getElem?_setIfInBounds_ne (Ne.symm ht)]
   exact this
theorem tE {g : Gh} {v : Value} {x : AV} (h : ic v = some x) : ak g x v /\ v.oneCell' = true := by
 unfold ic at h
 split at h <;> first
  | (cases h; simp [ak, Value.oneCell']; done)
  | cases h
theorem cZ {g : Gh} : ∀ {vs : List Value} {l : List AV}, vs.mapM ic = some l -> ar g l vs /\ ∀ u ∈ vs, u.oneCell' = true
 | [], l, h => by
   simp at h; subst h; simp [ar]
 | v :: vs, l, h => by
   simp only [List.mapM_cons, bind, Option.bind_eq_some_iff, pure, fy] at h
   obtain ⟨x, hx, l', yU, rfl⟩ := h
   obtain ⟨h1, h2⟩ := tE (g := g) hx
   obtain ⟨h3, h4⟩ := cZ (g := g) yU
   refine ⟨by simp only [ar]; exact ⟨v, vs, rfl, h1, h3⟩, fun u hu => ?_⟩
   simp only [dD] at hu
   rcases hu with rfl | hu
   · exact h2
   · exact h4 u hu
theorem Fo {g : Gh} (v : Value) : ak g ((ic v).getD .any) v := by
 cases h : ic v with
 | none => simp only [Option.getD_none, ak]
 | some x => exact (tE h).1
theorem xU {g : Gh} (v : Value) : ak g (yN v) v := by
 cases v with
 | agg cs =>
   simp only [yN]
   cases h : cs.toList.mapM ic with
   | none => simp only [JU, ak]
   | some l => simp only [JU, ak]; exact ⟨cs.toList, by simp, (cZ (g := g) h).2, (cZ h).1⟩
 | func fn f c =>
   simp only [yN]
   split
   · rename_i h
     simp only [bF, Array.isEmpty_iff] at h
     obtain ⟨rfl, rfl⟩ := h
     simp only [ak]; exact ⟨[], [], rfl, by simp [ar], by simp [ar]⟩
   · simp only [ak]
 | tuple vs =>
   simp only [yN]
   split
   · rename_i h
     simp only [Array.isEmpty_iff] at h
     subst h
     simp only [ak]; exact ⟨[], rfl, by simp [ar]⟩
   · simp only [ak]
 | _ => simp only [yN]; exact Fo _
theorem oB {C : bQ} {g : Gh} (hG : eL C g) {ρ : Env} {a : Act} (hr : eo g ρ a.tmps) (x : Operand) : ak g (ρ.ev C x) (a.eval x) := by
 cases x with
 | tmp t => exact hr t
 | const v => exact xU v
 | global i => exact hG.1 i
 | func f => simp only [Env.ev, Act.eval, ak]; exact ⟨[], [], rfl, by simp [ar], by simp [ar]⟩
inductive NV where
 | box
 | tok (n : Nat) (l : List AV)
 | ms (n fI : Nat) (e : TypeId)
 | mp
 | it
def NV.at (b : Nat) : NV -> AV
 | .box => .box b 0
 | .tok n l => .vec n (.own b) l
 | .ms n fI e => .ms b 0 n fI e
 | .mp => .mp b
 | .it => .it b
inductive aA where
 | val (v : AV)
 | ir (v : AV) (b : Nat) (x : Live)
 | new (k : NV) (del : Option Nat) (x : Live)
 | gT (b : Nat) (l : List (AV × Live))
 | enter (f : FuncId) (args : List AV)
 | yield (l : Nat) (args : List AV)
 | panic (v : AV)
 | cond (p : Prop) [d : Decidable p] (r : aA)
 | bad
abbrev aA.cN (l : List AV) : aA := .new .box none (.box l)
abbrev aA.jy (n : Nat) (l : List AV) (del : Option Nat) (t : Tok) : aA := .new (.tok n l) del (.tok t)
abbrev aA.ku (n fI : Nat) (e : TypeId) (del : Option Nat) (l : List AV) : aA := .new (.ms n fI e) del (.box l)
abbrev aA.zT : aA := .new .mp none (.mp [] [])
def St.nE (U : St) : Option Nat -> St
 | some b => U.del b
 | none => U
def aA.Fits (C : bQ) (g : Gh) (U : St) : aA -> Result Next -> Prop
 | .val v, res => ∃ u w' g', (res = .ok (.value u) w' \/ (res = .ok .skip w' /\ u = undef)) /\ Gh.Le g g' /\ aQ g' U w' /\ ak g' v u
 | .ir v b x, res => ∃ u w' g', (res = .ok (.value u) w' \/ (res = .ok .skip w' /\ u = undef)) /\ Gh.Le g g' /\ aQ g' (U.set b x) w' /\ ak g' v u
 | .new k del x, res => ∃ u w' g' b, res = .ok (.value u) w' /\ (U.nE del).cj b /\ Gh.Le g g' /\ aQ g' ((U.nE del).new b x) w' /\ ak g' (k.at b) u
 | .gT b l, res => ∃ u w' g' v x, res = .ok (.value u) w' /\ (v, x) ∈ l /\ Gh.Le g g' /\ aQ g' (U.set b x) w' /\ ak g' v u
 | .enter f args, res => ∃ vs w', res = .ok (.enter f (List.toArray vs)) w' /\ aQ g U w' /\ ar g args vs
 | .yield o args, res => ∃ vs x w w', g.place o = some x /\ res = (Instr.yield x.ax (List.toArray vs)).run C.P w /\ w' = w /\ aQ g U w /\ ar g args vs
 | .panic v, res => ∃ u w', res = .halt (.panic u) w' /\ aQ g U w' /\ ak g v u
 | @aA.cond p _ r, res => p -> r.Fits C g U res
 | .bad, _ => True
theorem aK {C : bQ} {g : Gh} {U : St} {w : World} {v : AV} {u : Value} (h : aQ g U w) (hr : ak g v u) : aA.Fits C g U (.val v) (.ok (.value u) w) :=
 ⟨u, w, g, .inl rfl, Gh.Le.refl g, h, hr⟩
def su (n : Int) : Prop := -9223372036854775808 <= n /\ n <= 9223372036854775807
instance (n : Int) : Decidable (su n) := inferInstanceAs (Decidable (_ /\ _))
theorem sn {n : Int} (h : su n) : IntKind.i64.wrap n = n := by
 obtain ⟨h1, h2⟩ := h
 have e : IntKind.i64.wrap n = if n % 18446744073709551616 >= 9223372036854775808 then n % 18446744073709551616 - 18446744073709551616 else n % 18446744073709551616 := by
  simp [IntKind.wrap, IntKind.bits, IntKind.signed]
 rw [e]
 split <;> omega
def qH (P : Program) (t : TypeId) : Bool := match P.underlying t with | some .bool => true | _ => false
def gB (P : Program) (t : TypeId) : Bool := match P.underlying t with | some (.interface _) => true | _ => false
def iI (P : Program) (t : TypeId) : Bool := match P.underlying t with | some (.pointer _) => true | _ => false
def lC (P : Program) (t : TypeId) : Bool := match P.underlying t with | some (.slice _) => true | _ => false
def eZ (k : IntKind) (n : Int) : aA :=
 match k with
 | .i64 => .cond (su n) (.val (.int .i64 n))
 | k => .val (.int k (k.wrap n))
inductive FK where
 | i
 | s
 | b
def kT : List FK -> List AV -> List AV -> Option Bool
 | [], [], [] => some true
 | .i :: ks, .int k a :: xs, .int k' b :: ys => if k = k' then (kT ks xs ys).map fun r => (a == b) && r else none
 | .s :: ks, .str a :: xs, .str b :: ys => (kT ks xs ys).map fun r => (a == b) && r
 | .b :: ks, .bool a :: xs, .bool b :: ys => (kT ks xs ys).map fun r => (a == b) && r
 | _, _, _ => none
def Gj (P : Program) (f : Field) (i : Nat) : Option FK :=
 if f.offset = i /\ f.name ≠ "_" then
  match P.underlying f.type with
  | some .bool => some .b
  | some (.int _) => some .i
  | some .string => some .s
  | _ => none
 else none
def qt (P : Program) : List Field -> Nat -> Option (List FK)
 | [], _ => some []
 | f :: fs, i => match Gj P f i, qt P fs (i + 1) with
   | some k, some ks => some (k :: ks)
   | _, _ => none
def Ej (P : Program) (t : TypeId) : Option (List FK) :=
 match P.underlying t with
 | some (.struct fields) => if P.stoodInHeld t = false /\ P.eqGuardType P.depth t = false then qt P fields.toList 0 else none
 | _ => none
def Da (P : Program) (t : TypeId) (a b : List AV) : Option Bool :=
 match Ej P t with
 | some ks => kT ks a b
 | none => none
def sg (f : Bool -> AV) : Option Bool -> aA
 | some r => .val (f r)
 | none => .bad
def D3 (P : Program) (op : BinOp) (t : TypeId) (x y : AV) : aA :=
 match op, x, y with
 | .add, .int k a, .int k' b => if k = k' then eZ k (a + b) else .bad
 | .sub, .int k a, .int k' b => if k = k' then eZ k (a - b) else .bad
 | .mul, .int k a, .int k' b => if k = k' then eZ k (a * b) else .bad
 | .quo, .int k a, .int k' b => if k = k' then .cond (b ≠ 0) (eZ k (a.tdiv b)) else .bad
 | .rem, .int k a, .int k' b => if k = k' then .cond (b ≠ 0) (.val (.int k (a.tmod b))) else .bad
 | .and, .int k a, .int k' b => if k = k' then .val (.int k (k.wrap (BitVec.ofInt k.bits a &&& BitVec.ofInt k.bits b).toNat)) else .bad
 | .or, .int k a, .int k' b => if k = k' then .val (.int k (k.wrap (BitVec.ofInt k.bits a ||| BitVec.ofInt k.bits b).toNat)) else .bad
 | .eql, .int k a, .int k' b => if k = k' then .val (.bool (a == b)) else .bad
 | .neq, .int k a, .int k' b => if k = k' then .val (.bool (a != b)) else .bad
 | .lss, .int k a, .int k' b => if k = k' then .val (.bool (decide (a < b))) else .bad
 | .leq, .int k a, .int k' b => if k = k' then .val (.bool (decide (a <= b))) else .bad
 | .gtr, .int k a, .int k' b => if k = k' then .val (.bool (decide (a > b))) else .bad
 | .geq, .int k a, .int k' b => if k = k' then .val (.bool (decide (a >= b))) else .bad
 | .eql, .str a, .str b => .val (.bool (a == b))
 | .neq, .str a, .str b => .val (.bool (a != b))
 | .add, .str a, .str b => .cond (a.length + b.length <= 4294967296) (.val (.str (a ++ b)))
 | .eql, .bool a, .bool b => if qH P t = true then .val (.bool (a == b)) else .bad
 | .neq, .bool a, .bool b => if qH P t = true then .val (.bool (a != b)) else .bad
 | .eql, .agg a, .agg b => sg .bool (Da P t a b)
 | .neq, .agg a, .agg b => sg (fun r => .bool (!r)) (Da P t a b)
 | .eql, .iface _ _, .cg => if gB P t = true then .val (.bool false) else .bad
 | .neq, .iface _ _, .cg => if gB P t = true then .val (.bool true) else .bad
 | .eql, .aR, .aR => if iI P t = true then .val (.bool true) else .bad
 | .eql, .box _ _, .aR => if iI P t = true then .val (.bool false) else .bad
 | .neq, .aR, .aR => if iI P t = true then .val (.bool false) else .bad
 | .neq, .box _ _, .aR => if iI P t = true then .val (.bool true) else .bad
 | .eql, .bL _, .aR => if iI P t = true then .val (.bool false) else .bad
 | .neq, .bL _, .aR => if iI P t = true then .val (.bool true) else .bad
 | .eql, .aq, .aq => if lC P t = true then .val (.bool true) else .bad
 | .eql, .vec _ _ _, .aq => if lC P t = true then .val (.bool false) else .bad
 | .eql, .ms _ _ _ _ _, .aq => if lC P t = true then .val (.bool false) else .bad
 | _, _, _ => .bad
def isLit : Operand -> Bool
 | .const _ => true
 | _ => false
def Am (P : Program) (op : BinOp) (t : TypeId) (lit : Bool) (x y : AV) : aA :=
 match op, x, y with
 | .eql, .cg, .cg => if gB P t = true /\ lit = true then .val (.bool true) else .bad
 | .neq, .cg, .cg => if gB P t = true /\ lit = true then .val (.bool false) else .bad
 | op, x, y => D3 P op t x y
end Go.Rip
namespace Go.Rip
open Go.RowKit
def AV.scalar : AV -> Bool
 | .agg _ | .aL _ | .any => false
 | _ => true
def au : AV -> List AV
 | .agg l => l
 | v => [v]
theorem yu {g : Gh} {x : AV} {v : Value} (h : ak g x v) (hs : x.scalar = true) : v.oneCell' = true := by
 cases x <;> simp only [AV.scalar, bl] at hs <;> simp only [ak] at h
 all_goals first
  | (subst h; rfl)
  | (obtain ⟨_, _, rfl⟩ := h; rfl)
  | (obtain ⟨_, _, _, rfl, _⟩ := h; rfl)
  | (obtain ⟨_, _, _, _, rfl, _⟩ := h; rfl)
  | (obtain ⟨_, _, _, rfl, _⟩ := h; rfl)
  | (obtain ⟨_, _, rfl, _⟩ := h; rfl)
  | (obtain ⟨_, rfl, _⟩ := h; rfl)
  | (obtain ⟨_, _, _, _, rfl, _⟩ := h; rfl)
def AV.cr : AV -> Bool
 | .aL _ | .any => false
 | _ => true
theorem sV {g : Gh} {x : AV} {v : Value} (h : ak g x v) (hs : x.cr = true) : ar g (au x) v.cells.toList /\ ∀ u ∈ v.cells.toList, u.oneCell' = true := by
 by_cases ha : ∃ l, x = .agg l
 · obtain ⟨l, rfl⟩ := ha
   simp only [ak] at h
   obtain ⟨vs, rfl, h1, h2⟩ := h
   exact ⟨by simpa [au, Value.cells] using h2, by simpa [Value.cells] using h1⟩
 · have MB : x.scalar = true := by cases x <;> simp_all [AV.cr, AV.scalar]
   have h1 := yu h MB
   have hc : au x = [x] := by cases x <;> simp_all [au]
   have hv : v.cells = #[v] := by cases v <;> simp_all [Value.cells, Value.oneCell']
   rw [hc, hv]
   exact ⟨by simp only [ar]; exact ⟨v, [], rfl, h, rfl⟩, by simpa using h1⟩
def iz (U : St) : AV -> Option (List AV)
 | .box b off => (U.box b).map (·.drop off)
 | .bL l => some l
 | _ => none
theorem nf {g : Gh} {U : St} {w : World} (h : aQ g U w) {p : AV} {v : Value} {l : List AV} (hp : ak g p v) (hl : iz U p = some l) :
 ∃ a vs, v = .pointer (some a) /\ a.spot = none /\ ar g l vs /\ ∀ j u, vs[j]? = some u -> w.cell? (a.add j) = some u /\ u.oneCell' = true := by
 have gz : ∀ ax off j, (⟨ax, off, none⟩ : Addr).add j = ⟨ax, off + j, none⟩ := fun ax off j => by unfold Addr.add; split <;> simp_all
 cases p <;> simp only [iz, reduceCtorEq] at hl
 · rename_i b off
   cases hb : U.box b with
   | none => simp [hb] at hl
   | some l0 =>
     simp [hb] at hl
     subst hl
     simp only [ak] at hp
     obtain ⟨x, hx, rfl⟩ := hp
     obtain ⟨x', cur, vs, rest, k1, k2, k3, k4, k5, k6, k7, k8⟩ := h.box b l0 hb
     rw [hx] at k1; cases k1
     refine ⟨⟨x.ax, off, none⟩, vs.drop off, rfl, rfl, k6.drop off, fun j u hu => ?_⟩
     rw [gz, cell_of_row _ _ _ cur x.e (0, 0) k3]
     rw [List.getElem?_drop] at hu
     have aH : off + j < vs.length := by
      rcases ga (off + j) vs.length with h | h
      · exact h
      · simp [rU h] at hu
     have : cur[off + j]? = some u := by rw [<- gE, k5, rW aH]; exact hu
     exact ⟨this, k7 u (fw (by rw [gE]; exact this))⟩
 · cases hl
   simp only [ak] at hp
   obtain ⟨ax, off, vs, rfl, hi, hr⟩ := hp
   exact ⟨⟨ax, off, none⟩, vs, rfl, rfl, hr, fun j u hu => by rw [gz]; exact h.bq _ _ _ (hi j u hu)⟩
def eR : List AV -> aA
 | x :: _ => .val x
 | [] => .bad
def pB (P : Program) (t : TypeId) (p : AV) (U : St) : aA :=
 match jJ P t, iz U p with
 | some (true, sz), some l => .cond (sz <= l.length) (.val (.agg (l.take sz)))
 | some (false, _), some l => eR l
 | _, _ => .bad
theorem ke {P : Program} {t : TypeId} {b : Bool} {sz : Nat} (h : jJ P t = some (b, sz)) :
 ∃ i d, P.info? t = some i /\ P.underlying t = some d /\ xM d = b /\ i.size = sz := by
 unfold jJ at h
 split at h
 · rename_i i d hi hd
   simp only [fy, iM] at h
   exact ⟨i, d, hi, hd, h.1, h.2⟩
 · cases h
theorem gV {P : Program} {t : TypeId} {d : TypeDesc} (h : P.underlying t = some d) (w : World) : (isAgg t).run P w = .ok (xM d) w := by
 simp only [isAgg, bo, run_underlying h, bG]
 cases d <;> rfl
theorem c6 {P : Program} {t : TypeId} {i : TypeInfo} (h : P.info? t = some i) (w : World) : (sizeOf t).run P w = .ok i.size w := by
 simp [sizeOf, typeInfo, h]
section
variable {C : bQ} {g : Gh} {U : St} {w : World}
theorem EX (h : aQ g U w) {t : TypeId} {p : AV} {v : Value} (hp : ak g p v) : aA.Fits C g U (pB C.P t p U) ((do let x <- Instr.loadAt t v; pure (Next.value x) : Sem Next).run C.P w) := by
 unfold pB
 split
 · rename_i b sz l hv hl
   obtain ⟨i, d, hi, hd, hb, cY⟩ := ke hv
   obtain ⟨a, vs, rfl, ha, hr, hc⟩ := nf h hp hl
   intro hle
   have hlen := hr.length
   have eC : (loadCells a (vs.take sz).length).run C.P w = .ok (vs.take sz).toArray w :=
    run_loadCells_list (P := C.P) w a (vs.take sz) fun j u hu => by
     rw [List.getElem?_take] at hu
     split at hu
     · exact (hc j u hu).1
     · cases hu
   have po : (vs.take sz).length = sz := by simp; omega
   rw [po] at eC
   simp only [Instr.loadAt, Instr.sureAddr, loadVar, bo, bK, bG, gV hd, hb, if_true, c6 hi, cY, eC, dj]
   have Gp : ∀ u ∈ vs.take sz, u.oneCell' = true := fun u hu => by
    obtain ⟨j, hj⟩ := List.getElem?_of_mem hu
    rw [List.getElem?_take] at hj
    split at hj
    · exact (hc j u hj).2
    · cases hj
   exact aK h (by simp only [ak]; exact ⟨_, rfl, Gp, hr.take sz⟩)
 · rename_i b sz l hv hl
   obtain ⟨i, d, hi, hd, hb, cY⟩ := ke hv
   obtain ⟨a, vs, rfl, ha, hr, hc⟩ := nf h hp hl
   cases l with
   | nil => trivial
   | cons x xs =>
     simp only [ar] at hr
     obtain ⟨u, us, rfl, h1, h2⟩ := hr
     have := (hc 0 u rfl).1
     have h0 : a.add 0 = a := by simp [Addr.add]
     rw [h0] at this
     simp only [Instr.loadAt, Instr.sureAddr, loadVar, bo, bK, bG, gV hd, hb, bl, if_false, run_load, this, dj]
     exact aK h h1
 · trivial
def aB (l : List AV) (off : Nat) (cs : List AV) : List AV := l.take off ++ cs ++ l.drop (off + cs.length)
def B2 (P : Program) (t : TypeId) (p v : AV) (U : St) : aA :=
 match jJ P t, p with
 | some (_, sz), .box b off => match U.box b with
   | some l => .cond (v.cr = true /\ (au v).length = sz /\ off + sz <= l.length) (.ir (.aL []) b (.box (aB l off (au v))))
   | none => .bad
 | _, _ => .bad
theorem qR (h : aQ g U w) {b off : Nat} {l : List AV} {x : Place} (hb : U.box b = some l) (hx : g.box b = some x) {cs : List AV} {us : List Value} (hr : ar g cs us) (h1 : ∀ u ∈ us, u.oneCell' = true)
 (kI : off + cs.length <= l.length) : ∃ w', (storeCells ⟨x.ax, off, none⟩ us).run C.P w = .ok () w' /\ aQ g (U.bC b (aB l off cs)) w' := by
 obtain ⟨x', cur, vs, rest, k1, k2, k3, k4, k5, k6, k7, k8⟩ := h.box b l hb
 rw [hx] at k1; cases k1
 have GF := hr.length
 have po := k6.length
 have cY : cur.size = vs.length + rest.length := by rw [<- nK, k5, eG]
 have eC := run_storeCells_at C.P x.ax off x.e us 0 cur w k3 (by omega) h1
 simp only [Nat.add_zero] at eC
 refine ⟨_, eC, ?_⟩
 have e : cur.toList.take off ++ us ++ cur.toList.drop (off + us.length) = (vs.take off ++ us ++ vs.drop (off + us.length)) ++ rest := by
  rw [k5, List.take_append_of_le_length (by omega), List.drop_append_of_le_length (by omega)]
  simp
 refine h.setRow hb hx _ (vs.take off ++ us ++ vs.drop (off + us.length)) rest ?_ (by simpa using e) ?_ ?_
 · rw [<- nK]
   have := congrArg List.length e
   simp only [eG, List.length_take, List.length_drop] at this
   simp only [eG, List.length_take, List.length_drop, nK] at this ⊢
   omega
 · unfold aB
   rw [GF]
   exact ((k6.take off).append hr).append (k6.drop _)
 · intro u hu
   simp only [fx] at hu
   rcases hu with (hu | hu) | hu
   · exact k7 u (List.mem_of_mem_take hu)
   · exact h1 u hu
   · exact k7 u (List.mem_of_mem_drop hu)
theorem C0 (h : aQ g U w) {t : TypeId} {p x : AV} {v u : Value} (hp : ak g p v) (hx : ak g x u) : aA.Fits C g U (B2 C.P t p x U) ((do Instr.storeAt t v u; pure Next.skip : Sem Next).run C.P w) := by
 unfold B2
 split
 · rename_i bb sz b off hv
   split
   · rename_i l hb
     rintro ⟨h1, h2, h3⟩
     obtain ⟨i, d, hi, hd, _, cY⟩ := ke hv
     obtain ⟨tg, uR⟩ := sV hx h1
     simp only [ak] at hp
     obtain ⟨y, hy, rfl⟩ := hp
     obtain ⟨w', eC, hs⟩ := qR (C := C) h hb hy tg uR (by rw [h2]; exact h3)
     have hlen : u.cells.size = sz := by rw [<- nK, tg.length]; exact h2
     simp only [Instr.storeAt, Instr.sureAddr, storeVar, bo, bK, bG, c6 hi, cY, hlen, ne_eq, not_true_eq_false, if_false, dj, eC]
     exact ⟨undef, w', g, .inr ⟨rfl, rfl⟩, Gh.Le.refl g, hs, by simp only [ak]; exact ⟨[], rfl, by simp [ar]⟩⟩
   · trivial
 · trivial
def Ai (t : TypeId) : List AV -> aA
 | [.aR, .aq] => .new .box none (.va t [.aR, .aq])
 | l => .cN l
def Ah (P : Program) (t : TypeId) : aA :=
 match ly P t with
 | some l => Ai t l
 | none => .bad
theorem jt {P : Program} {t : TypeId} {l : List AV} (hz : ly P t = some l) : ∃ i z, P.info? t = some i /\ i.zero = some z /\ z.cells.toList.mapM ic = some l := by
 unfold ly at hz
 cases hi : P.info? t with
 | none => simp [hi] at hz
 | some i =>
   cases oN : i.zero with
   | none => simp [hi, oN] at hz
   | some z => simp [hi, oN] at hz; exact ⟨i, z, rfl, oN, hz⟩
theorem ek {P : Program} {t : TypeId} {i : TypeInfo} {z : Value} (hi : P.info? t = some i) (hz : i.zero = some z) (w : World) : (zeroValue t).run P w = .ok z w := by
 simp [zeroValue, typeInfo, hi, hz]
theorem u1 (h : aQ g U w) (e : TypeId) {l : List AV} {cur : Array Value} (hl : ar g l cur.toList) (h1 : ∀ u ∈ cur.toList, u.oneCell' = true) :
 aA.Fits C g U (.cN l) (.ok (.value (.pointer (some ⟨w.heap.size, 0, none⟩))) (w.alloc (.cells cur e))) := by
 obtain ⟨b, g', hb, hle, hx, hs⟩ := h.cN e cur cur.toList [] l (by simp) hl h1
 exact ⟨_, _, g', b, rfl, hb, hle, hs, by simp only [NV.at, ak]; exact ⟨_, hx, rfl⟩⟩
theorem Ck (h : aQ g U w) {t : TypeId} : aA.Fits C g U (Ah C.P t) ((do let x <- Instr.alloc t true (.tuple #[]); pure (Next.value x) : Sem Next).run C.P w) := by
 unfold Ah
 split
 · rename_i l hz
   obtain ⟨i, z, hi, oN, hm⟩ := jt hz
   obtain ⟨h1, h2⟩ := cZ (g := g) hm
   simp only [Instr.alloc, newVar, newRow, bo, bK, bG, ek hi oN, run_newObj]
   unfold Ai
   split
   · have hlen := h1.length
     obtain ⟨b, g', hb, hle, hx, hs⟩ := h.oR (.cells z.cells t) t z.cells.size (.va t [.aR, .aq]) fun g' hle hi hm => ⟨rfl, by simpa using hlen, z.cells, z.cells.toList, [], heap_alloc_new w _, rfl, by simp, h1.mono hle, h2, hi⟩
     exact ⟨_, _, g', b, rfl, hb, hle, hs, by simp only [NV.at, ak]; exact ⟨_, hx, rfl⟩⟩
   · exact u1 h t h1 h2
 · trivial
def eB (v : AV) : aA := .cond (v.cr = true) (.cN (au v))
theorem F3 (h : aQ g U w) {t : TypeId} {x : AV} {u : Value} (hx : ak g x u) : aA.Fits C g U (eB x) ((do let y <- Instr.box t u; pure (Next.value y) : Sem Next).run C.P w) := by
 intro hl
 obtain ⟨h1, h2⟩ := sV hx hl
 simp only [Instr.box, newVar, newRow, bo, bK, bG, run_newObj]
 exact u1 h t h1 h2
def a8 (x : AV) : aA :=
 match x with
 | .box _ _ | .bL _ | .func (.func _) _ _ => .val x
 | _ => .bad
def rq (P : Program) (s : TypeId) (p : AV) (f : Nat) : aA :=
 match s8 P s f, p with
 | some o, .box b off => .val (.box b (off + o))
 | some o, .bL l => .val (.bL (l.drop o))
 | _, _ => .bad
theorem CA {P : Program} {s : TypeId} {f o : Nat} (h : s8 P s f = some o) : ∃ fs x, P.underlying s = some (.struct fs) /\ fs[f]? = some x /\ P.cellsOf x.type ≠ 0 /\ x.offset = o := by
 unfold s8 at h
 split at h
 · rename_i fs hu
   split at h
   · rename_i x hx
     split at h
     · rename_i hc; cases h; exact ⟨fs, x, hu, hx, hc, rfl⟩
     · cases h
   · cases h
 · cases h
theorem rA {ax off n : Nat} {vs : List Value} (h : gQ g ax off vs) : gQ g ax (off + n) (vs.drop n) := fun i u hu => by
 rw [List.getElem?_drop] at hu
 have := h (n + i) u hu
 rwa [Nat.add_assoc]
theorem wz (h : aQ g U w) {s f : Nat} {p : AV} {v : Value} (hp : ak g p v) : aA.Fits C g U (rq C.P s p f) ((do let x <- Instr.fieldAt s v f; pure (Next.value x) : Sem Next).run C.P w) := by
 have gz : ∀ ax off j, (⟨ax, off, none⟩ : Addr).add j = ⟨ax, off + j, none⟩ := fun ax off j => by unfold Addr.add; split <;> simp_all
 have key : ∀ (o : Nat) (ax off : Nat), s8 C.P s f = some o -> v = .pointer (some ⟨ax, off, none⟩) ->
  ((do let x <- Instr.fieldAt s v f; pure (Next.value x) : Sem Next).run C.P w) = .ok (.value (.pointer (some ⟨ax, off + o, none⟩))) w := fun o ax off ho hv => by
  obtain ⟨fs, x, hu, hx, hc, rfl⟩ := CA ho
  subst hv
  obtain ⟨i, hi, XY⟩ : ∃ i, C.P.info? x.type = some i /\ i.size = C.P.cellsOf x.type := by
   cases hi : C.P.info? x.type with
   | none => simp [Program.cellsOf, hi] at hc
   | some i => exact ⟨i, rfl, by simp [Program.cellsOf, hi]⟩
  simp only [Instr.fieldAt, bo, bK, bG, run_underlying hu, hx, Instr.sureAddr, fieldPlace, c6 hi, XY, if_neg hc, dj, gz]
 unfold rq
 split
 · rename_i o b off ho
   simp only [ak] at hp
   obtain ⟨x, hx, hv⟩ := hp
   rw [key o x.ax off ho hv]
   exact aK h (by simp only [ak]; exact ⟨x, hx, rfl⟩)
 · rename_i o l ho
   simp only [ak] at hp
   obtain ⟨ax, off, vs, hv, hi, hr⟩ := hp
   rw [key o ax off ho hv]
   exact aK h (by simp only [ak]; exact ⟨ax, off + o, vs.drop o, rfl, rA hi, hr.drop o⟩)
 · trivial
theorem eW {P : Program} {t e : TypeId} {sz : Nat} (h : dk P t = some (e, sz)) :
 ∃ i z, P.underlying t = some (.slice e) /\ P.info? e = some i /\ i.zero = some z /\ z.cells.size = sz /\ i.size = sz /\ 0 < sz /\ i.bytes <= 32768 /\ (∀ u ∈ z.cells.toList, u.oneCell' = true) := by
 unfold dk at h
 split at h
 · rename_i e' hu
   split at h
   · rename_i i hi
     split at h
     · rename_i z hz
       split at h
       · rename_i hc
         simp only [fy, iM] at h
         obtain ⟨rfl, rfl⟩ := h
         refine ⟨i, z, hu, hi, hz, hc.1, rfl, hc.2.1, hc.2.2.1, fun u hu => ?_⟩
         have := hc.2.2.2
         rw [Array.all_eq_true_iff_forall_mem] at this
         exact this u (by simpa using hu)
       · cases h
     · cases h
   · cases h
 · cases h
def pR (P : Program) (t : TypeId) : Option (Nat × TypeId × Nat) :=
 match P.underlying t with
 | some (.array n e) => match P.info? e with
   | some i => some (n, e, i.size)
   | none => none
 | _ => none
theorem pb {P : Program} {t e : TypeId} {n sz : Nat} (h : pR P t = some (n, e, sz)) : ∃ i, P.underlying t = some (.array n e) /\ P.info? e = some i /\ i.size = sz := by
 unfold pR at h
 split at h
 · rename_i n' e' hu
   split at h
   · rename_i i hi
     simp only [fy, iM] at h
     obtain ⟨rfl, rfl, rfl⟩ := h
     exact ⟨i, hu, hi, rfl⟩
   · cases h
 · cases h
def FY (P : Program) (t : TypeId) (x i : AV) : aA :=
 match pR P t, x, i with
 | some (n, _, sz), .bL l, .int _ j => .cond (0 <= j /\ j < n) (.val (.bL (l.drop (j.toNat * sz))))
 | some (n, _, sz), .box b off, .int _ j => .cond (0 <= j /\ j < n) (.val (.box b (off + j.toNat * sz)))
 | _, _, _ => .bad
def rB (P : Program) (t : TypeId) (x i : AV) : aA :=
 match dk P t, x, i with
 | none, x, i => FY P t x i
 | some (_, sz), .vec n _ l, .int _ j => .cond (0 <= j /\ j < n) (.val (.bL (l.drop (j.toNat * sz))))
 | some (_, sz), .ms b off n fI _, .int _ j => .cond (0 <= j /\ j < n /\ fI = sz) (.val (.box b (off + j.toNat * sz)))
 | _, _, _ => .bad
theorem wP (h : aQ g U w) {t : TypeId} {x y : AV} {v u : Value} (hx : ak g x v) (hy : ak g y u) : aA.Fits C g U (rB C.P t x y) ((do let x <- Instr.indexAt t v u; pure (Next.value x) : Sem Next).run C.P w) := by
 have gz : ∀ ax off j, (⟨ax, off, none⟩ : Addr).add j = ⟨ax, off + j, none⟩ := fun ax off j => by unfold Addr.add; split <;> simp_all
 have key : ∀ (e : TypeId) (sz : Nat) (ax off n c : Nat) (k : IntKind) (j : Int), dk C.P t = some (e, sz) -> v = .slice (some ⟨ax, off, none⟩) n c -> u = .int k j -> 0 <= j -> j < n ->
  ((do let x <- Instr.indexAt t v u; pure (Next.value x) : Sem Next).run C.P w) = .ok (.value (.pointer (some ⟨ax, off + j.toNat * sz, none⟩))) w := fun e sz ax off n c k j ho hv hu h0 h1 => by
  obtain ⟨i, z, kF, hi, hz, _, cY, _⟩ := eW ho
  subst hv hu
  simp only [Instr.indexAt, asIntOf, bo, bK, bG, run_underlying kF, h0, h1, and_self, if_true, dj, c6 hi, cY, gz]
 unfold rB
 split
 · unfold FY
   split
   · rename_i n e sz l k j ha
     rintro ⟨h0, h1⟩
     obtain ⟨i, kF, hi, cY⟩ := pb ha
     simp only [ak] at hx hy
     obtain ⟨ax, off, vs, rfl, gA, hr⟩ := hx
     subst hy
     simp only [Instr.indexAt, asIntOf, bo, bK, bG, run_underlying kF, Instr.sureAddr, h0, h1, and_self, if_true, dj, c6 hi, cY, gz]
     exact aK h (by simp only [ak]; exact ⟨ax, _, _, rfl, rA gA, hr.drop _⟩)
   · rename_i n e sz b off k j ha
     rintro ⟨h0, h1⟩
     obtain ⟨i, kF, hi, cY⟩ := pb ha
     simp only [ak] at hx hy
     obtain ⟨x, hb, rfl⟩ := hx
     subst hy
     simp only [Instr.indexAt, asIntOf, bo, bK, bG, run_underlying kF, Instr.sureAddr, h0, h1, and_self, if_true, dj, c6 hi, cY, gz]
     exact aK h (by simp only [ak]; exact ⟨x, hb, rfl⟩)
   · trivial
 · rename_i e sz n cap l k j hs
   rintro ⟨h0, h1⟩
   simp only [ak] at hx hy
   obtain ⟨ax, off, c, vs, hv, _, _, _, hi, hr⟩ := hx
   rw [key e sz ax off n c k j hs hv hy h0 h1]
   exact aK h (by simp only [ak]; exact ⟨ax, _, _, rfl, rA hi, hr.drop _⟩)
 · rename_i e sz b off n fI e' k j hs
   rintro ⟨h0, h1, rfl⟩
   simp only [ak] at hx hy
   obtain ⟨x, c, hb, hv, _⟩ := hx
   rw [key e fI x.ax off n c k j hs hv hy h0 h1]
   exact aK h (by simp only [ak]; exact ⟨x, hb, rfl⟩)
 · trivial
def jv (P : Program) (t : TypeId) : Bool := match P.underlying t with | some .string => true | _ => false
def wO (P : Program) (t : TypeId) (x i : AV) : aA :=
 match x, i with
 | .str s, .int _ j => if jv P t = true then .cond (0 <= j /\ j < s.length) (.val (.int .u8 (s.getD j.toNat 0).toNat)) else .bad
 | .agg l, .int _ j => match pR P t with
   | some (n, e, sz) => match jJ P e with
     | some (false, _) => .cond (0 <= j /\ j < n) (eR (l.drop (j.toNat * sz)))
     | some (true, k) => .cond (0 <= j /\ j < n /\ k = sz /\ j.toNat * sz + sz <= l.length) (.val (.agg ((l.drop (j.toNat * sz)).take sz)))
     | none => .bad
   | none => .bad
 | _, _ => .bad
theorem lf {P : Program} {t : TypeId} (h : jv P t = true) : P.underlying t = some .string := by
 unfold jv at h
 split at h
 · assumption
 · cases h
theorem CG (h : aQ g U w) {t : TypeId} {x y : AV} {v u : Value} (hx : ak g x v) (hy : ak g y u) : aA.Fits C g U (wO C.P t x y) ((do let x <- Instr.index t v u; pure (Next.value x) : Sem Next).run C.P w) := by
 unfold wO
 split
 · rename_i s k j
   split
   · rename_i ht
     rintro ⟨h0, h1⟩
     simp only [ak] at hx hy
     subst hx hy
     have hj : j.toNat < s.length := by omega
     have e : (ByteArray.mk s.toArray)[j.toNat]? = some (s.getD j.toNat 0) := by
      have cY : (ByteArray.mk s.toArray).size = s.length := by simp [ByteArray.size]
      rw [getElem?_pos _ _ (by rw [cY]; exact hj)]
      simp [yo, j4 hj]
      rfl
     simp only [Instr.index, asIntOf, bo, bK, bG, run_underlying (lf ht), h0, if_true, e]
     exact aK h (by simp only [ak])
   · trivial
 · rename_i l k j
   split
   · rename_i n e sz ha
     obtain ⟨i, kF, hi, cY⟩ := pb ha
     simp only [ak] at hx hy
     subst hy
     obtain ⟨vs, rfl, Gp, hr⟩ := hx
     split
     · rename_i Z0 hv
       obtain ⟨i', d, gA, hd, hb, _⟩ := ke hv
       rintro ⟨h0, h1⟩
       cases hl : l.drop (j.toNat * sz) with
       | nil => trivial
       | cons z zs =>
         have hz : l[j.toNat * sz]? = some z := by
          have := congrArg (fun l => l[0]?) hl
          simpa using this
         obtain ⟨u, YC, Q1⟩ := hr.get hz
         have e1 : vs.toArray[j.toNat * sz]? = some u := by simpa using YC
         simp only [Instr.index, asIntOf, bo, bK, bG, run_underlying kF, h0, h1, and_self, if_true, dj, c6 hi, cY, part, gV hd, hb, bl, if_false, e1]
         exact aK h Q1
     · rename_i k' hv
       obtain ⟨i', d, gA, hd, hb, hk⟩ := ke hv
       rw [hi] at gA; cases gA
       rintro ⟨h0, h1, rfl, h2⟩
       simp only [Instr.index, asIntOf, bo, bK, bG, run_underlying kF, h0, h1, and_self, if_true, dj, c6 hi, cY, part, gV hd, hb]
       refine aK h ?_
       simp only [ak]
       refine ⟨(vs.drop (j.toNat * k')).take k', ?_, fun u hu => Gp u (List.mem_of_mem_drop (List.mem_of_mem_take hu)), (hr.drop _).take _⟩
       congr 1
       apply Array.ext'
       simp [List.extract_eq_take_drop]
     · trivial
   · trivial
 · trivial
end
end Go.Rip
namespace Go.Rip
open Go.RowKit
section
variable {C : bQ} {g : Gh} {U : St} {w : World}
theorem mD {P : Program} {d : Nat} : ∀ (fs : List Field) (i : Nat) (ks : List FK) (xs ys : List AV) (us vs : Array Value) (r : Bool), qt P fs i = some ks -> kT ks xs ys = some r ->
 ar g xs (us.toList.drop i) -> ar g ys (vs.toList.drop i) -> (Op.eqFields (d + 1) us vs fs).run P w = .ok r w
 | [], i, ks, xs, ys, us, vs, r, hk, he, _, _ => by
   simp only [qt, fy] at hk
   subst hk
   cases xs <;> cases ys <;> simp only [kT, reduceCtorEq, fy] at he
   subst he
   simp [Op.eqFields]
 | f :: fs, i, ks, xs, ys, us, vs, r, hk, he, hx, hy => by
   simp only [qt] at hk
   split at hk
   · rename_i k ks' hf Gz
     simp only [fy] at hk
     subst hk
     unfold Gj at hf
     split at hf
     · rename_i hc
       obtain ⟨ho, hn⟩ := hc
       have Mx : ∀ (us : Array Value) (u : Value), us[i]? = some u -> ∀ dd, P.underlying f.type = some dd -> xM dd = false -> (part f.type us f.offset).run P w = .ok u w := fun us u hu dd hd ha => by
        simp only [part, bo, gV hd, bG, ha, bl, if_false, ho, hu, bK, dj]
       have km : ∀ {xs : List AV} {x : AV} {us : Array Value}, ar g (x :: xs) (us.toList.drop i) -> ∃ u, us[i]? = some u /\ ak g x u /\ ar g xs (us.toList.drop (i + 1)) := fun {xs x us} h => by
        simp only [ar] at h
        obtain ⟨u, rest, e, h1, h2⟩ := h
        refine ⟨u, ?_, h1, ?_⟩
        · have := congrArg (fun l => l[0]?) e
          simpa using this
        · have := congrArg (List.drop 1) e
          rw [List.drop_drop] at this
          rw [this]; simpa using h2
       have tj : ∀ (u v : Value) (q r' : Bool) (dd : TypeDesc), us[i]? = some u -> vs[i]? = some v -> P.underlying f.type = some dd -> xM dd = false -> (Op.equalIn (d + 1) f.type u v).run P w = .ok q w ->
        (Op.eqFields (d + 1) us vs fs).run P w = .ok r' w -> (Op.eqFields (d + 1) us vs (f :: fs)).run P w = .ok (q && r') w := fun u v q r' dd hu hv hd ha heq We => by
        simp only [Op.eqFields, if_pos hn, bo, Mx us u hu dd hd ha, Mx vs v hv dd hd ha, bG, heq, dj, bK, We]
        cases q <;> simp
       split at hf
       · rename_i hd
         cases hf
         cases xs with
         | nil => simp [kT] at he
         | cons x xs =>
           cases ys with
           | nil => cases x <;> simp [kT] at he
           | cons y ys =>
             cases x <;> cases y <;> simp only [kT, reduceCtorEq] at he
             cases hr : kT ks' xs ys with
             | none => simp [hr] at he
             | some r' =>
               simp [hr] at he
               subst he
               obtain ⟨u, hu, y6, gU⟩ := km hx
               obtain ⟨v, hv, y7, GR⟩ := km hy
               simp only [ak] at y6 y7
               subst y6 y7
               have := tj _ _ _ r' _ hu hv hd rfl (run_equalIn_bool' w d f.type _ _ hd) (mD fs (i + 1) ks' xs ys us vs r' Gz hr gU GR)
               rw [this]
       · rename_i kk hd
         cases hf
         cases xs with
         | nil => simp [kT] at he
         | cons x xs =>
           cases ys with
           | nil => cases x <;> simp [kT] at he
           | cons y ys =>
             cases x <;> cases y <;> simp only [kT, reduceCtorEq] at he
             split at he
             · rename_i e; subst e
               cases hr : kT ks' xs ys with
               | none => simp [hr] at he
               | some r' =>
                 simp [hr] at he
                 subst he
                 obtain ⟨u, hu, y6, gU⟩ := km hx
                 obtain ⟨v, hv, y7, GR⟩ := km hy
                 simp only [ak] at y6 y7
                 subst y6 y7
                 have := tj _ _ _ r' _ hu hv hd rfl (run_equalIn_int w d f.type _ _ _ _ hd) (mD fs (i + 1) ks' xs ys us vs r' Gz hr gU GR)
                 rw [this]
             · cases he
       · rename_i hd
         cases hf
         cases xs with
         | nil => simp [kT] at he
         | cons x xs =>
           cases ys with
           | nil => cases x <;> simp [kT] at he
           | cons y ys =>
             cases x <;> cases y <;> simp only [kT, reduceCtorEq] at he
             cases hr : kT ks' xs ys with
             | none => simp [hr] at he
             | some r' =>
               simp [hr] at he
               subst he
               obtain ⟨u, hu, y6, gU⟩ := km hx
               obtain ⟨v, hv, y7, GR⟩ := km hy
               simp only [ak] at y6 y7
               subst y6 y7
               have := tj _ _ _ r' _ hu hv hd rfl (run_equalIn_string w d f.type _ _ hd) (mD fs (i + 1) ks' xs ys us vs r' Gz hr gU GR)
               rw [this]
               simp [ByteArray.toList_eq]
       · cases hf
     · cases hf
   · cases hk
theorem xj {P : Program} {t : TypeId} {a b : List AV} {us vs : List Value} {r : Bool} (h : Da P t a b = some r) (ha : ar g a us) (hb : ar g b vs) :
 (Op.equalIn 10000 t (.agg us.toArray) (.agg vs.toArray)).run P w = .ok r w /\ P.eqGuardType P.depth t = false := by
 unfold Da at h
 split at h
 · rename_i ks iD
   unfold Ej at iD
   split at iD
   · rename_i fs hu
     split at iD
     · rename_i hc
       have UL : P.fieldsOf t = fs := by simp [Program.fieldsOf, hu]
       refine ⟨?_, hc.2⟩
       rw [run_equalIn_struct w 9999 t _ _ (by rw [UL]; exact hu) hc.1, UL]
       exact mD (d := 9998) fs.toList 0 ks a b _ _ r iD h (by simpa using ha) (by simpa using hb)
     · cases iD
   · cases iD
 · cases h
theorem nR {P : Program} (w : World) (d : Nat) (t : TypeId) (ms : Array (String × TypeId)) (h : P.underlying t = some (.interface ms)) (a : TypeId) (b : Value) : (Op.equalIn (d + 1) t (.iface a b) .nilIface).run P w = .ok false w := by
 simp [Op.equalIn, run_underlying h]
theorem fX {P : Program} (w : World) (d : Nat) (t e : TypeId) (h : P.underlying t = some (.pointer e)) (a : Option Addr) : (Op.equalIn (d + 1) t (.pointer a) (.pointer none)).run P w = .ok a.isNone w := by
 cases a <;> simp [Op.equalIn, run_underlying h]
theorem j5 {P : Program} (w : World) (d : Nat) (t e : TypeId) (h : P.underlying t = some (.slice e)) (a : Option Addr) (n c : Nat) : (Op.equalIn (d + 1) t (.slice a n c) (.slice none 0 0)).run P w = .ok a.isNone w := by
 cases a <;> simp [Op.equalIn, run_underlying h]
theorem mE {P : Program} (w : World) (d : Nat) (t : TypeId) (ms : Array (String × TypeId)) (h : P.underlying t = some (.interface ms)) : (Op.equalIn (d + 1) t .nilIface .nilIface).run P w = .ok true w := by
 simp [Op.equalIn, run_underlying h]
theorem F0 (h : aQ g U w) {op : BinOp} {t : TypeId} {x y : AV} {u v : Value} (X Y : Operand) (hx : ak g x u) (hy : ak g y v) :
 aA.Fits C g U (D3 C.P op t x y) ((do let r <- (do eqGuard op t X Y u v; binOp op t u v : Sem Value); pure (Next.value r) : Sem Next).run C.P w) := by
 have hI : ∀ (k : IntKind) (n : Int), aA.Fits C g U (eZ k n) (.ok (.value (.int k (k.wrap n))) w) := fun k n => by
  unfold eZ
  split
  · intro hi
    rw [sn hi]
    exact aK h (by simp only [ak])
  · exact aK h (by simp only [ak])
 unfold D3
 split
 all_goals first
  | trivial
  | skip
 all_goals simp only [ak] at hx hy
 all_goals first
  | (subst hx hy
     split
     · rename_i e; subst e
       first
        | (simp only [eqGuard, binOp, ne_eq, not_true_eq_false, if_false, Op.intArith, Op.intCmp, Op.intBits, bo, bK, bG, Bool.not_eq_true', Bool.true_eq_false, cu, dJ, bl, if_true, dj]
           first
            | exact hI _ _
            | exact aK h (by simp only [ak]))
        | (intro hb
           simp only [eqGuard, binOp, ne_eq, not_true_eq_false, if_false, Op.intDiv, if_neg hb, bo, bK, bG, Bool.not_eq_true', Bool.true_eq_false, cu, dJ, bl, if_true, dj]
           first
            | exact hI _ _
            | exact aK h (by simp only [ak]))
     · trivial)
  | skip
 · subst hx hy
   simp only [eqGuard, binOp, Op.stringOp, bo, bK, bG, cu, bl, if_false, dj, ByteArray.toList_eq, List.toList_toArray]
   exact aK h (by simp only [ak])
 · subst hx hy
   simp only [eqGuard, binOp, Op.stringOp, bo, bK, bG, cu, bl, if_false, dj, ByteArray.toList_eq, List.toList_toArray]
   exact aK h (by simp only [ak]; rfl)
 · subst hx hy
   rename_i a b
   intro hle
   have h1 : ¬ (((ByteArray.mk a.toArray).size + (ByteArray.mk b.toArray).size : Nat) : Int) > IntKind.i64.max := by
    have e1 : (ByteArray.mk a.toArray).size = a.length := by simp [ByteArray.size]
    have e2 : (ByteArray.mk b.toArray).size = b.length := by simp [ByteArray.size]
    have e3 : IntKind.i64.max = 9223372036854775807 := by simp [IntKind.max, IntKind.signed, IntKind.bits]
    rw [e1, e2, e3]; omega
   have h2 : (ByteArray.mk a.toArray) ++ (ByteArray.mk b.toArray) = ByteArray.mk (a ++ b).toArray := by
    apply ByteArray.ext
    simp
   simp only [eqGuard, binOp, Op.stringOp, bo, bK, bG, if_neg h1, dj, cu, dJ, bl, if_true, if_false, h2]
   exact aK h (by simp only [ak])
 · subst hx hy
   split
   · rename_i ht
     have hu : C.P.underlying t = some .bool := by unfold qH at ht; split at ht <;> simp_all
     have hr := run_equalIn_bool' (P := C.P) w 9999 t
     simp only [eqGuard, binOp, Op.equal, Op.maxDepth, bo, bK, bG, hr _ _ hu, cu, bl, if_false, dj]
     exact aK h (by simp only [ak])
   · trivial
 · subst hx hy
   split
   · rename_i ht
     have hu : C.P.underlying t = some .bool := by unfold qH at ht; split at ht <;> simp_all
     have hr := run_equalIn_bool' (P := C.P) w 9999 t
     simp only [eqGuard, binOp, Op.equal, Op.maxDepth, bo, bK, bG, hr _ _ hu, cu, bl, if_false, dj]
     exact aK h (by simp only [ak]; rfl)
   · trivial
 · rename_i a b
   obtain ⟨us, rfl, _, ha⟩ := hx
   obtain ⟨vs, rfl, _, hb⟩ := hy
   cases he : Da C.P t a b with
   | none => trivial
   | some r =>
     obtain ⟨h1, h2⟩ := xj (w := w) he ha hb
     simp only [sg, bo, run_eqGuard_agg w _ _ _ _ _ _ h2, bG, run_eql_struct, h1, bK]
     exact aK h (by simp only [ak])
 · rename_i a b
   obtain ⟨us, rfl, _, ha⟩ := hx
   obtain ⟨vs, rfl, _, hb⟩ := hy
   cases he : Da C.P t a b with
   | none => trivial
   | some r =>
     obtain ⟨h1, h2⟩ := xj (w := w) he ha hb
     simp only [sg, bo, run_eqGuard_agg w _ _ _ _ _ _ h2, bG, run_neq_struct, h1, bK]
     exact aK h (by simp only [ak])
 · obtain ⟨u', rfl, _⟩ := hx
   subst hy
   split
   · rename_i ht
     obtain ⟨ms, hu⟩ : ∃ ms, C.P.underlying t = some (.interface ms) := by unfold gB at ht; split at ht <;> simp_all
     have hr := nR (P := C.P) w 9999 t ms hu
     simp only [eqGuard, binOp, Op.equal, Op.maxDepth, hr, bo, bK, bG, cu, bl, if_false, dj]
     exact aK h (by simp only [ak])
   · trivial
 · obtain ⟨u', rfl, _⟩ := hx
   subst hy
   split
   · rename_i ht
     obtain ⟨ms, hu⟩ : ∃ ms, C.P.underlying t = some (.interface ms) := by unfold gB at ht; split at ht <;> simp_all
     have hr := nR (P := C.P) w 9999 t ms hu
     simp only [eqGuard, binOp, Op.equal, Op.maxDepth, hr, bo, bK, bG, cu, dJ, bl, if_false, dj]
     exact aK h (by simp only [ak])
   · trivial
 · subst hx hy
   split
   · rename_i ht
     obtain ⟨ms, hu⟩ : ∃ ms, C.P.underlying t = some (.pointer ms) := by unfold iI at ht; split at ht <;> simp_all
     have hr := fX (P := C.P) w 9999 t ms hu
     simp only [eqGuard, binOp, Op.equal, Op.maxDepth, hr, bo, bK, bG, Option.isNone_none, cu, dJ, bl, if_false, dj]
     exact aK h (by simp [ak])
   · trivial
 · obtain ⟨x, _, rfl⟩ := hx
   subst hy
   split
   · rename_i ht
     obtain ⟨ms, hu⟩ : ∃ ms, C.P.underlying t = some (.pointer ms) := by unfold iI at ht; split at ht <;> simp_all
     have hr := fX (P := C.P) w 9999 t ms hu
     simp only [eqGuard, binOp, Op.equal, Op.maxDepth, hr, bo, bK, bG, Option.isNone_none, cu, dJ, bl, if_false, dj]
     exact aK h (by simp [ak])
   · trivial
 · subst hx hy
   split
   · rename_i ht
     obtain ⟨ms, hu⟩ : ∃ ms, C.P.underlying t = some (.pointer ms) := by unfold iI at ht; split at ht <;> simp_all
     have hr := fX (P := C.P) w 9999 t ms hu
     simp only [eqGuard, binOp, Op.equal, Op.maxDepth, hr, bo, bK, bG, Option.isNone_none, cu, dJ, bl, if_false, dj]
     exact aK h (by simp [ak])
   · trivial
 · obtain ⟨x, _, rfl⟩ := hx
   subst hy
   split
   · rename_i ht
     obtain ⟨ms, hu⟩ : ∃ ms, C.P.underlying t = some (.pointer ms) := by unfold iI at ht; split at ht <;> simp_all
     have hr := fX (P := C.P) w 9999 t ms hu
     simp only [eqGuard, binOp, Op.equal, Op.maxDepth, hr, bo, bK, bG, Option.isNone_none, cu, dJ, bl, if_false, dj]
     exact aK h (by simp [ak])
   · trivial
 · obtain ⟨_, _, _, rfl, _⟩ := hx
   subst hy
   split
   · rename_i ht
     obtain ⟨ms, hu⟩ : ∃ ms, C.P.underlying t = some (.pointer ms) := by unfold iI at ht; split at ht <;> simp_all
     have hr := fX (P := C.P) w 9999 t ms hu
     simp only [eqGuard, binOp, Op.equal, Op.maxDepth, hr, bo, bK, bG, Option.isNone_none, cu, dJ, bl, if_false, dj]
     exact aK h (by simp [ak])
   · trivial
 · obtain ⟨_, _, _, rfl, _⟩ := hx
   subst hy
   split
   · rename_i ht
     obtain ⟨ms, hu⟩ : ∃ ms, C.P.underlying t = some (.pointer ms) := by unfold iI at ht; split at ht <;> simp_all
     have hr := fX (P := C.P) w 9999 t ms hu
     simp only [eqGuard, binOp, Op.equal, Op.maxDepth, hr, bo, bK, bG, Option.isNone_none, cu, dJ, bl, if_false, dj]
     exact aK h (by simp [ak])
   · trivial
 · subst hx
   subst hy
   split
   · rename_i ht
     obtain ⟨ms, hu⟩ : ∃ ms, C.P.underlying t = some (.slice ms) := by unfold lC at ht; split at ht <;> simp_all
     have hr := j5 (P := C.P) w 9999 t ms hu
     simp only [eqGuard, binOp, Op.equal, Op.maxDepth, hr, bo, bK, bG, Option.isNone_none, Option.isNone_some, cu, dJ, bl, if_false, dj]
     exact aK h (by simp [ak])
   · trivial
 · obtain ⟨_, _, _, _, rfl, _⟩ := hx
   subst hy
   split
   · rename_i ht
     obtain ⟨ms, hu⟩ : ∃ ms, C.P.underlying t = some (.slice ms) := by unfold lC at ht; split at ht <;> simp_all
     have hr := j5 (P := C.P) w 9999 t ms hu
     simp only [eqGuard, binOp, Op.equal, Op.maxDepth, hr, bo, bK, bG, Option.isNone_none, Option.isNone_some, cu, dJ, bl, if_false, dj]
     exact aK h (by simp [ak])
   · trivial
 · obtain ⟨_, _, _, rfl, _⟩ := hx
   subst hy
   split
   · rename_i ht
     obtain ⟨ms, hu⟩ : ∃ ms, C.P.underlying t = some (.slice ms) := by unfold lC at ht; split at ht <;> simp_all
     have hr := j5 (P := C.P) w 9999 t ms hu
     simp only [eqGuard, binOp, Op.equal, Op.maxDepth, hr, bo, bK, bG, Option.isNone_none, Option.isNone_some, cu, dJ, bl, if_false, dj]
     exact aK h (by simp [ak])
   · trivial
theorem F1 (h : aQ g U w) {op : BinOp} {t : TypeId} {x y : AV} {u v : Value} (X Y : Operand) (hx : ak g x u) (hy : ak g y v) :
 aA.Fits C g U (Am C.P op t (isLit X || isLit Y) x y) ((do let r <- (do eqGuard op t X Y u v; binOp op t u v : Sem Value); pure (Next.value r) : Sem Next).run C.P w) := by
 have key : ∀ (op : BinOp), (op = .eql \/ op = .neq) -> gB C.P t = true -> (isLit X || isLit Y) = true -> (eqGuard op t X Y .nilIface .nilIface).run C.P w = .ok () w := fun op hop ht hl => by
  obtain ⟨ms, hu⟩ : ∃ ms, C.P.underlying t = some (.interface ms) := by unfold gB at ht; split at ht <;> simp_all
  rcases hop with rfl | rfl <;> cases X <;> cases Y <;> simp [isLit] at hl <;> simp [eqGuard]
 unfold Am
 split
 · simp only [ak] at hx hy
   subst hx hy
   split
   · rename_i ht
     obtain ⟨ms, hu⟩ : ∃ ms, C.P.underlying t = some (.interface ms) := by have ht := ht.1; unfold gB at ht; split at ht <;> simp_all
     have hr := mE (P := C.P) w 9999 t ms hu
     simp only [bo, key _ (.inl rfl) ht.1 ht.2, binOp, Op.equal, Op.maxDepth, hr, bK, bG, cu, dJ, bl, if_false, dj]
     exact aK h (by simp [ak])
   · trivial
 · simp only [ak] at hx hy
   subst hx hy
   split
   · rename_i ht
     obtain ⟨ms, hu⟩ : ∃ ms, C.P.underlying t = some (.interface ms) := by have ht := ht.1; unfold gB at ht; split at ht <;> simp_all
     have hr := mE (P := C.P) w 9999 t ms hu
     simp only [bo, key _ (.inr rfl) ht.1 ht.2, binOp, Op.equal, Op.maxDepth, hr, bK, bG, cu, dJ, bl, if_false, dj]
     exact aK h (by simp [ak])
   · trivial
 · exact F0 h X Y hx hy
end
end Go.Rip
namespace Go.Rip
open Go.RowKit
section
variable {C : bQ} {g : Gh} {U : St} {w : World}
def D1 (P : Program) (t u : TypeId) : Option (TypeId × Nat) :=
 match P.underlying u with
 | some (.slice _) => dk P t
 | some .string => match dk P t with
   | some (e, 1) => some (e, 1)
   | _ => none
 | _ => none
def nL (U : St) : AV -> Option (Nat × List AV)
 | .vec m _ l => some (m, l)
 | .aq => some (0, [])
 | .ms b off m fI _ => match U.box b with
   | some l => some (m, (l.drop off).take (m * fI))
   | none => none
 | .str s => some (s.length, s.map fun b => .int .u8 b.toNat)
 | _ => none
def xN (P : Program) (t u : TypeId) (mu : Bool) (s y : AV) (U : St) : aA :=
 match D1 P t u, nL U y with
 | some (e, sz), some (m, l2) =>
   .cond (l2.length = m * sz) (match s with
   | .aq => if m = 0 then .val .aq else .cond (m <= 4294967296) (if mu then .ku m sz e none l2 else .jy m l2 none ⟨m, e, sz⟩)
   | .vec n .full l => if m = 0 then .val s else .cond (l.length = n * sz /\ n + m <= 4294967296) (.jy (n + m) (l ++ l2) none ⟨n + m, e, sz⟩)
   | .vec n (.own τ) l => .cond (U.tok τ = some ⟨n, e, sz⟩ /\ l.length = n * sz /\ n + m <= 4294967296) (.jy (n + m) (l ++ l2) (some τ) ⟨n + m, e, sz⟩)
   | .ms b off n fI e' => match U.box b with
     | some l => .cond (off = 0 /\ fI = sz /\ e' = e /\ n * sz <= l.length /\ n + m <= 4294967296) (.ku (n + m) sz e (some b) (l.take (n * sz) ++ l2))
     | none => .bad
   | _ => .bad)
 | _, _ => .bad
theorem FX {P : Program} {t u e : TypeId} {sz : Nat} (h : D1 P t u = some (e, sz)) : dk P t = some (e, sz) /\ ∃ d, P.underlying u = some d /\ ((∃ x, d = .slice x) \/ d = .string) := by
 unfold D1 at h
 split at h
 · rename_i x hx; exact ⟨h, _, hx, .inl ⟨x, rfl⟩⟩
 · rename_i hx
   split at h
   · rename_i e' he
     simp only [fy, iM] at h
     obtain ⟨rfl, rfl⟩ := h
     exact ⟨he, _, hx, .inr rfl⟩
   · cases h
 · cases h
theorem Ju (h : aQ g U w) {y : AV} {v : Value} (hy : ak g y v) {m : Nat} {l2 : List AV} (hs : nL U y = some (m, l2)) {sz : Nat} (hl : l2.length = m * sz) :
 (∀ W, (Builtin.lenOf v).run C.P W = .ok m W) /\ ∃ us : List Value, ar g l2 us /\ (∀ u ∈ us, u.oneCell' = true) /\ ∀ W : World, W.heap = w.heap -> (Builtin.firstCells sz m v).run C.P W = .ok us.toArray W := by
 have gz : ∀ ax off j, (⟨ax, off, none⟩ : Addr).add j = ⟨ax, off + j, none⟩ := fun ax off j => by unfold Addr.add; split <;> simp_all
 have lr : ∀ (W : World) a, W.heap = w.heap -> W.cell? a = w.cell? a := fun W a hW => by simp [World.cell?, hW]
 have read : ∀ (ax off c : Nat) (us : List Value), us.length = m * sz -> (∀ j u, us[j]? = some u -> w.cell? ⟨ax, off + j, none⟩ = some u) -> ∀ W : World, W.heap = w.heap ->
  (Builtin.firstCells sz m (.slice (some ⟨ax, off, none⟩) m c)).run C.P W = .ok us.toArray W := fun ax off c us hlen hc W hW => by
  exact run_firstCells_some W sz m ⟨ax, off, none⟩ m c us hlen (fun j u hu => by rw [gz, lr W _ hW]; exact hc j u hu)
 cases y <;> simp only [nL, reduceCtorEq, fy, iM] at hs
 · rename_i s
   obtain ⟨rfl, rfl⟩ := hs
   simp only [ak] at hy
   subst hy
   have cY : (ByteArray.mk s.toArray).size = s.length := by simp [ByteArray.size]
   refine ⟨fun W => by simp [Builtin.lenOf, cY], s.map (fun b => Value.int .u8 b.toNat), ?_, by simp [Value.oneCell'], fun W _ => ?_⟩
   · refine ar.wW (by simp) fun i x u hx hu => ?_
     simp only [jm, kN] at hx hu
     obtain ⟨b, hb, rfl⟩ := hx
     obtain ⟨b', dz, rfl⟩ := hu
     rw [hb] at dz; cases dz
     simp only [ak]
   · simp only [Builtin.firstCells, bK]
     congr 1
     apply Array.ext'
     simp
 · obtain ⟨rfl, rfl⟩ := hs
   simp only [ak] at hy
   subst hy
   exact ⟨fun W => by simp [Builtin.lenOf], [], by simp [ar], by simp, fun W _ => by simp [Builtin.firstCells]⟩
 · rename_i n cap l
   obtain ⟨rfl, rfl⟩ := hs
   simp only [ak] at hy
   obtain ⟨ax, off, c, vs, rfl, _, _, _, hi, hr⟩ := hy
   exact ⟨fun W => by simp [Builtin.lenOf], vs, hr, fun u hu => by
    obtain ⟨j, hj⟩ := List.getElem?_of_mem hu
    exact (h.bq _ _ _ (hi j u hj)).2, read ax off c vs (by rw [hr.length, hl]) fun j u hu => (h.bq _ _ _ (hi j u hu)).1⟩
 · rename_i b off n fI e'
   split at hs
   · rename_i l hb
     simp only [fy, iM] at hs
     obtain ⟨rfl, rfl⟩ := hs
     simp only [ak] at hy
     obtain ⟨x, c, hx, rfl, _, _, _, _⟩ := hy
     obtain ⟨a, vs, hv, ha, hr, hc⟩ := nf h (p := .box b off) (v := .pointer (some ⟨x.ax, off, none⟩)) (l := l.drop off) (by simp only [ak]; exact ⟨x, hx, rfl⟩) (by simp [iz, hb])
     cases hv
     refine ⟨fun W => by simp [Builtin.lenOf], vs.take (n * fI), hr.take _, fun u hu => ?_, read x.ax off c _ (by rw [(hr.take _).length, hl]) fun j u hu => ?_⟩
     · obtain ⟨j, hj⟩ := List.getElem?_of_mem hu
       rw [List.getElem?_take] at hj
       split at hj
       · exact (hc j u hj).2
       · cases hj
     · rw [List.getElem?_take] at hu
       split at hu
       · have := (hc j u hu).1; rwa [gz] at this
       · cases hu
   · cases hs
theorem kz {P : Program} {w : World} {t u ty e : TypeId} {i : TypeInfo} {d : TypeDesc} (ht : P.underlying t = some (.slice e)) (hu : P.underlying u = some d) (hd : (∃ x, d = .slice x) \/ d = .string) (hi : P.info? e = some i)
 {base : Option Addr} {n c m : Nat} {v : Value} {us : List Value} (hm : ∀ W, (Builtin.lenOf v).run P W = .ok m W) (hf : (Builtin.firstCells i.size m v).run P w = .ok us.toArray w) (lu : n + m <= c) :
 (Builtin.append_ #[t, u] ty #[.slice base n c, v]).run P w = match base with
   | some a => ((storeCells (a.add (n * i.size)) us).run P w).andThen fun _ w' => .ok (.slice base (n + m) c) w'
   | none => .ok (.slice base (n + m) c) w := by
 rcases hd with ⟨x, rfl⟩ | rfl <;> cases base <;>
  simp [Builtin.append_, run_underlying ht, run_underlying hu, sizeOf, typeInfo, hi, hm, lu, hf]
theorem yr {P : Program} {w : World} {t u ty e : TypeId} {i : TypeInfo} {z : Value} {d : TypeDesc} (ht : P.underlying t = some (.slice e)) (hu : P.underlying u = some d) (hd : (∃ x, d = .slice x) \/ d = .string) (hi : P.info? e = some i) (hz : i.zero = some z) (wE : i.bytes <= 32768)
 {base : Option Addr} {n c m : Nat} {v : Value} {tF us : List Value} (hm : ∀ W, (Builtin.lenOf v).run P W = .ok m W) (hf : ∀ W : World, W.heap = w.heap -> (Builtin.firstCells i.size m v).run P W = .ok us.toArray W)
 (ho : ∀ W : World, W.heap = w.heap -> (Builtin.firstCells i.size n (.slice base n c)).run P W = .ok tF.toArray W) (Zu : c < n + m) (mi : n + m <= 4294967296) :
 (Builtin.append_ #[t, u] ty #[.slice base n c, v]).run P w =
   .ok (.slice (some ⟨w.heap.size, 0, none⟩) (n + m) (grownCap w (n + m) c e))
    (w.drew.alloc (.cells (tF.toArray ++ us.toArray ++ Builtin.zeroCells z.cells (grownCap w (n + m) c e - (n + m))) e)) := by
 have lu : ¬ (n + m <= c) := by omega
 have Ko : ¬ (9223372036854775807 < ((n : Int) + (m : Int))) := by omega
 have gK : (n + m) * i.bytes <= 140737488355328 := Nat.le_trans (Nat.mul_le_mul mi wE) (by omega)
 have Gq := growslice_fits (old := c) (need := n + m) (bytes := i.bytes) (by omega) gK
 have Km : ¬ (281474976710656 < Builtin.nextslicecap (n + m) c * i.bytes) := by omega
 have XS := hf w.drew rfl
 have Mu := ho w.drew rfl
 rcases hd with ⟨x, rfl⟩ | rfl <;>
 · simp [Builtin.append_, run_underlying ht, run_underlying hu, sizeOf, typeInfo, zeroValue, hi, hz, hm, lu, Ko, Km, Question.forced, XS, Mu, newRow, grownCap]
   congr 2
   apply Array.ext'
   simp [oY]
theorem St.C8 (U : St) (d : Option Nat) : St.Le (U.nE d) U := by
 cases d with
 | none => exact St.Le.refl U
 | some b => exact St.oz U b
theorem kV {w : World} (h : aQ g U w) {del : Option Nat} {e : TypeId} {sz n c : Nat} {l : List AV} {vs rest : List Value} (hr : ar g l vs) (h1 : ∀ u ∈ vs, u.oneCell' = true) (h2 : ∀ u ∈ rest, u.oneCell' = true)
 (hl : l.length = n * sz) (hc : vs.length + rest.length = c * sz) (hn : n <= c) (qy : c <= maxLen) :
 aA.Fits C g U (.jy n l del ⟨n, e, sz⟩) (.ok (.value (.slice (some ⟨w.heap.size, 0, none⟩) n c)) (w.alloc (.cells (vs ++ rest).toArray e))) := by
 obtain ⟨τ, g', h3, hle, h4, h5, h6⟩ := (h.weaken (St.C8 U del)).jy e sz n c (vs ++ rest).toArray vs rest (by simp) (by
  intro u hu
  simp only [fx] at hu
  rcases hu with hu | hu
  · exact h1 u hu
  · exact h2 u hu) (by rw [hr.length, hl]) (by simp [hc]) hn qy
 refine ⟨_, _, g', τ, rfl, h3, hle, h6, ?_⟩
 simp only [NV.at, ak]
 exact ⟨w.heap.size, 0, c, vs, rfl, hn, qy, ⟨rfl, h4⟩, h5, hr.mono hle⟩
theorem mg {w : World} (h : aQ g U w) {del : Option Nat} {e : TypeId} {sz n c : Nat} {l : List AV} {vs rest : List Value} (hr : ar g l vs) (h1 : ∀ u ∈ vs, u.oneCell' = true) (h2 : ∀ u ∈ rest, u.oneCell' = true)
 (hc : vs.length + rest.length = c * sz) (hn : n <= c) (qy : c <= maxLen) :
 aA.Fits C g U (.ku n sz e del l) (.ok (.value (.slice (some ⟨w.heap.size, 0, none⟩) n c)) (w.alloc (.cells (vs ++ rest).toArray e))) := by
 obtain ⟨b, g', h3, hle, h4, h6⟩ := (h.weaken (St.C8 U del)).cN e (vs ++ rest).toArray vs rest l (by simp) hr (by
  intro u hu
  simp only [fx] at hu
  rcases hu with hu | hu
  · exact h1 u hu
  · exact h2 u hu)
 refine ⟨_, _, g', b, rfl, h3, hle, h6, ?_⟩
 simp only [NV.at, ak]
 exact ⟨_, c, h4, rfl, hn, qy, by simp [hc], rfl⟩
theorem iw {z : Array Value} (hz : ∀ u ∈ z.toList, u.oneCell' = true) (n : Nat) (hp : 0 < z.size) : ∀ u ∈ (Builtin.zeroCells z n).toList, u.oneCell' = true := by
 intro u hu
 simp only [Builtin.zeroCells, Array.toList_map, List.mem_map] at hu
 obtain ⟨i, _, rfl⟩ := hu
 have aH : i % z.size < z.size := Nat.mod_lt _ hp
 rw [getElem!_pos z _ aH]
 exact hz _ (by simp)
theorem Aj (h : aQ g U w) {t u ty : TypeId} {mu : Bool} {s y : AV} {v v2 : Value} (hs : ak g s v) (hy : ak g y v2) :
 aA.Fits C g U (xN C.P t u mu s y U) ((do let r <- Builtin.append_ #[t, u] ty #[v, v2]; pure (Next.value r) : Sem Next).run C.P w) := by
 have gz : ∀ ax off j, (⟨ax, off, none⟩ : Addr).add j = ⟨ax, off + j, none⟩ := fun ax off j => by unfold Addr.add; split <;> simp_all
 unfold xN
 split
 · rename_i e sz m l2 XE ED
   intro po
   obtain ⟨kY, d, hu, hd⟩ := FX XE
   obtain ⟨i, z, ht, hi, hz, qC, rfl, lB, wE, Vf⟩ := eW kY
   obtain ⟨hm, us, mh, tf, hf⟩ := Ju (C := C) h hy ED po
   have GO : us.length = m * i.size := by rw [mh.length, po]
   have grow : ∀ (base : Option Addr) (n c : Nat) (tF : List Value), (∀ W : World, W.heap = w.heap -> (Builtin.firstCells i.size n (.slice base n c)).run C.P W = .ok tF.toArray W) -> tF.length = n * i.size -> c < n + m -> n + m <= 4294967296 ->
    ∃ cap rest, n + m <= cap /\ cap <= maxLen /\ (∀ u ∈ rest, u.oneCell' = true) /\ (tF ++ us).length + rest.length = cap * i.size /\
    (Builtin.append_ #[t, u] ty #[.slice base n c, v2]).run C.P w = .ok (.slice (some ⟨w.drew.heap.size, 0, none⟩) (n + m) cap) (w.drew.alloc (.cells ((tF ++ us) ++ rest).toArray e)) := fun base n c tF ho Yn aH mi => by
    have iX := grownCap_ge w (n + m) c e
    have hle := grownCap_le_maxLen w (n + m) c e (by unfold maxLen; omega)
    refine ⟨grownCap w (n + m) c e, (Builtin.zeroCells z.cells (grownCap w (n + m) c e - (n + m))).toList, iX, hle, iw Vf _ (by omega), ?_, ?_⟩
    · rw [eG, Yn, GO, nK, size_zeroCells, qC, <- Nat.add_mul, <- Nat.add_mul]
      congr 1; omega
    · rw [yr ht hu hd hi hz wE hm hf ho aH mi]
      congr 3
      simp
   split
   · simp only [ak] at hs
     subst hs
     split
     · rename_i h0
       subst h0
       rw [bo, kz ht hu hd hi hm (hf w rfl) (by omega)]
       exact aK h (by simp only [ak])
     · rename_i h0
       intro mi
       obtain ⟨cap, rest, h1, h2, h3, h4, h5⟩ := grow none 0 0 [] (fun W _ => by simp [Builtin.firstCells]) (by simp) (by omega) (by omega)
       rw [bo, h5]
       have c7 := h.grow (gy w)
       simp only [ck, iN] at h1 h4 h5 ⊢
       split
       · exact mg c7 mh tf h3 h4 h1 h2
       · exact kV c7 mh tf h3 po h4 h1 h2
   · rename_i n l
     have oM := hs
     simp only [ak] at hs
     obtain ⟨ax, off, c, vs, rfl, yV, qy, th, jF, hr⟩ := hs
     simp only [l9] at th
     subst th
     split
     · rename_i h0
       subst h0
       rw [bo, kz ht hu hd hi hm (hf w rfl) (by omega)]
       have Wj : us = [] := List.eq_nil_of_length_eq_zero (by simpa using GO)
       subst Wj
       simp only [storeCells, bK, bG, Nat.add_zero]
       exact aK h oM
     · rename_i h0
       rintro ⟨hl, mi⟩
       have Bc : vs.length = c * i.size := by rw [hr.length, hl]
       have ho : ∀ W : World, W.heap = w.heap -> (Builtin.firstCells i.size c (.slice (some ⟨ax, off, none⟩) c c)).run C.P W = .ok vs.toArray W := fun W hW =>
        run_firstCells_some W i.size c ⟨ax, off, none⟩ c c vs Bc (fun j u hu => by
         rw [gz]
         have : W.cell? ⟨ax, off + j, none⟩ = w.cell? ⟨ax, off + j, none⟩ := by simp [World.cell?, hW]
         rw [this]; exact (h.bq _ _ _ (jF j u hu)).1)
       obtain ⟨cap, rest, h1, h2, h3, h4, h5⟩ := grow (some ⟨ax, off, none⟩) c c vs ho Bc (by omega) mi
       rw [bo, h5]
       have c7 := h.grow (gy w)
       refine kV c7 (hr.append mh) ?_ h3 (by rw [eG, hl, po, Nat.add_mul]) h4 h1 h2
       intro u hu
       simp only [fx] at hu
       rcases hu with hu | hu
       · obtain ⟨j, hj⟩ := List.getElem?_of_mem hu
         exact (h.bq _ _ _ (jF j u hj)).2
       · exact tf u hu
   · rename_i n τ l
     rintro ⟨QU, hl, mi⟩
     simp only [ak] at hs
     obtain ⟨ax, off, c, vs, rfl, yV, qy, th, jF, hr⟩ := hs
     simp only [l9] at th
     obtain ⟨rfl, tk⟩ := th
     obtain ⟨VH, c', cur, k1, k2, k3, k4, k5, k6, k7⟩ := h.tok τ _ QU
     rw [tk] at k1; cases k1
     have Bc : vs.length = n * i.size := by rw [hr.length, hl]
     by_cases lu : n + m <= c
     · have kI : n * i.size + us.length <= cur.size := by
        have e4 : cur.size = c * i.size := k4
        rw [GO, e4, <- Nat.add_mul]; exact Nat.mul_le_mul_right _ lu
       have et := run_storeCells_at C.P ax (n * i.size) e us 0 cur w k3 (by simpa using kI) tf
       simp only [Nat.add_zero] at et
       rw [bo, kz ht hu hd hi hm (hf w rfl) lu]
       simp only [gz, ck, et, bG]
       obtain ⟨ra, g', t1, hle, t2, t3, t4⟩ := h.RU QU tk cur (cur.toList.take (n * i.size) ++ us ++ cur.toList.drop (n * i.size + us.length)).toArray us m k3 GO lu (by simp) tf
       refine ⟨_, _, g', ra, rfl, t1, hle, t4, ?_⟩
       simp only [NV.at, ak]
       refine ⟨ax, 0, c, vs ++ us, rfl, lu, qy, ⟨rfl, t2⟩, fun j u hu => ?_, (hr.append mh).mono hle⟩
       by_cases hj : j < vs.length
       · rw [rW hj] at hu
         exact (jF.mono hle) j u hu
       · rw [List.getElem?_append_right (by omega)] at hu
         have e0 : n * i.size + (j - vs.length) = 0 + j := by omega
         have Vx : g'.bq ax (n * i.size + (j - vs.length)) = some u := t3 _ u hu
         rw [e0] at Vx
         exact Vx
     · have ho : ∀ W : World, W.heap = w.heap -> (Builtin.firstCells i.size n (.slice (some ⟨ax, 0, none⟩) n c)).run C.P W = .ok vs.toArray W := fun W hW =>
        run_firstCells_some W i.size n ⟨ax, 0, none⟩ n c vs Bc (fun j u hu => by
         rw [gz]
         have : W.cell? ⟨ax, 0 + j, none⟩ = w.cell? ⟨ax, 0 + j, none⟩ := by simp [World.cell?, hW]
         rw [this]; exact (h.bq _ _ _ (jF j u hu)).1)
       obtain ⟨cap, rest, h1, h2, h3, h4, h5⟩ := grow (some ⟨ax, 0, none⟩) n c vs ho Bc (by omega) mi
       rw [bo, h5]
       have c7 := h.grow (gy w)
       refine kV c7 (hr.append mh) ?_ h3 (by rw [eG, hl, po, Nat.add_mul]) h4 h1 h2
       intro u hu
       simp only [fx] at hu
       rcases hu with hu | hu
       · obtain ⟨j, hj⟩ := List.getElem?_of_mem hu
         exact (h.bq _ _ _ (jF j u hj)).2
       · exact tf u hu
   · rename_i b off n fI e'
     split
     · rename_i l hb
       rintro ⟨rfl, rfl, rfl, U3, mi⟩
       simp only [ak] at hs
       obtain ⟨x, c, hx, rfl, yV, qy, TK, QY⟩ := hs
       obtain ⟨x', cur, vs, TU, k1, k2, k3, k4, k5, k6, k7, k8⟩ := h.box b l hb
       rw [hx] at k1; cases k1
       have oE : cur.size = c * i.size := by rw [k4]; omega
       have Bc := k6.length
       by_cases lu : n + m <= c
       · have kI : n * i.size + us.length <= cur.size := by
          rw [GO, oE, <- Nat.add_mul]; exact Nat.mul_le_mul_right _ lu
         have et := run_storeCells_at C.P x.ax (n * i.size) x.e us 0 cur w k3 (by simpa using kI) tf
         simp only [Nat.add_zero] at et
         rw [bo, kz ht hu hd hi hm (hf w rfl) lu]
         simp only [gz, ck, et, bG]
         have e1 : cur.toList.take (n * i.size) = vs.take (n * i.size) := by rw [k5, List.take_append_of_le_length (by omega)]
         have tn := h.setRow hb hx (l' := l.take (n * i.size) ++ l2) (cur.toList.take (n * i.size) ++ us ++ cur.toList.drop (n * i.size + us.length)).toArray (vs.take (n * i.size) ++ us) (cur.toList.drop (n * i.size + us.length)) (by
          simp only [List.size_toArray, eG, List.length_take, List.length_drop, nK]; omega) (by simp [e1]) ((k6.take _).append mh) (by
          intro u hu
          simp only [fx] at hu
          rcases hu with (hu | hu) | hu
          · exact k7 u (List.mem_of_mem_take hu)
          · exact tf u hu
          · exact k7 u (List.mem_of_mem_drop hu))
         obtain ⟨b', g', f1, hle, f2, f3⟩ := tn.rename (b := b) (x := .box (l.take (n * i.size) ++ l2)) (by simp [St.bC, St.set]) hx
         have ed : (U.bC b (l.take (n * i.size) ++ l2)).del b = U.del b := by
          simp only [St.bC, St.set, St.del, St.mk.injEq, and_true]
          funext y
          split <;> rfl
         rw [ed] at f1 f3
         refine ⟨_, _, g', b', rfl, f1, hle, f3, ?_⟩
         simp only [NV.at, ak]
         exact ⟨x, c, f2, rfl, lu, qy, TK, QY⟩
       · have Vb : (vs.take (n * i.size)).length = n * i.size := by simp; omega
         have ho : ∀ W : World, W.heap = w.heap -> (Builtin.firstCells i.size n (.slice (some ⟨x.ax, 0, none⟩) n c)).run C.P W = .ok (vs.take (n * i.size)).toArray W := fun W hW =>
          run_firstCells_some W i.size n ⟨x.ax, 0, none⟩ n c _ Vb (fun j u hu => by
           rw [gz]
           have : W.cell? ⟨x.ax, 0 + j, none⟩ = w.cell? ⟨x.ax, 0 + j, none⟩ := by simp [World.cell?, hW]
           rw [this, cell_of_row _ _ _ cur x.e (0, 0) k3, ck, <- gE, k5]
           rw [List.getElem?_take] at hu
           split at hu
           · rw [rW (by omega)]; exact hu
           · cases hu)
         obtain ⟨cap, rest, h1, h2, h3, h4, h5⟩ := grow (some ⟨x.ax, 0, none⟩) n c _ ho Vb (by omega) mi
         rw [bo, h5]
         have c7 := h.grow (gy w)
         refine mg c7 ((k6.take _).append mh) ?_ h3 h4 h1 h2
         intro u hu
         simp only [fx] at hu
         rcases hu with hu | hu
         · refine k7 u ?_
           rw [k5]
           exact List.mem_append_left _ (List.mem_of_mem_take hu)
         · exact tf u hu
     · trivial
   · trivial
 · trivial
end
end Go.Rip
namespace Go.Rip
open Go.RowKit
section
variable {C : bQ} {g : Gh} {U : St} {w : World}
def cI (sZ : Int) : Option AV -> Option Int
 | none => some sZ
 | some (.int _ n) => some n
 | _ => none
def rl : ik -> Option AV -> ik
 | .full, none => .full
 | _, _ => .gq
def BX (P : Program) (t : TypeId) (x : AV) (lo hi : Option AV) : aA :=
 match x with
 | .str s => match jv P t, cI 0 lo, cI s.length hi with
   | true, some l, some h => .cond (0 <= l /\ l <= h /\ h <= s.length) (.val (.str ((s.take h.toNat).drop l.toNat)))
   | _, _, _ => .bad
 | .vec n cap l => match dk P t, cI 0 lo, cI n hi with
   | some (_, sz), some a, some b => .cond (0 <= a /\ a <= b /\ b <= n) (.val (.vec (b.toNat - a.toNat) (rl cap hi) ((l.take (b.toNat * sz)).drop (a.toNat * sz))))
   | _, _, _ => .bad
 | .aq => match dk P t, cI 0 lo, cI 0 hi with
   | some (_, _), some a, some b => .cond (a = 0 /\ b = 0) (.val .aq)
   | _, _, _ => .bad
 | .ms b off n fI e => match dk P t, cI 0 lo, cI n hi with
   | some (_, sz), some a, some h => .cond (0 <= a /\ a <= h /\ h <= n /\ (a < n \/ a = 0) /\ fI = sz) (.val (.ms b (off + a.toNat * sz) (h.toNat - a.toNat) fI e))
   | _, _, _ => .bad
 | _ => .bad
theorem run_sliceBound {P : Program} {x : Value} {k : IntKind} {n : Int} {y : Nat} {code : BoundsCode} (hx : x = .int k n) (h0 : 0 <= n) (h1 : n <= y) : (Instr.sliceBound x y code).run P w = .ok n.toNat w := by
 subst hx
 simp [Instr.sliceBound, asIntOf, h0, h1]
theorem wj {sZ : Int} {o : Option AV} {v : Option Value} {n : Int} (hr : match o, v with | none, none => True | some x, some u => ak g x u | _, _ => False) (hb : cI sZ o = some n) :
 (o = none /\ v = none /\ n = sZ) \/ ∃ k u, v = some u /\ u = .int k n /\ ∃ x, o = some x := by
 cases o with
 | none =>
   cases v with
   | none => simp [cI] at hb; exact .inl ⟨rfl, rfl, hb.symm⟩
   | some u => exact hr.elim
 | some x =>
   cases v with
   | none => exact hr.elim
   | some u =>
     cases x <;> simp only [cI, reduceCtorEq, fy] at hb
     subst hb
     simp only [ak] at hr
     exact .inr ⟨_, u, rfl, hr, _, rfl⟩
theorem jN {P : Program} {isS : Bool} {len cap : Nat} {lo hi : Option AV} {vl vh : Option Value} {a b : Int}
 (hl : match lo, vl with | none, none => True | some x, some u => ak g x u | _, _ => False) (hh : match hi, vh with | none, none => True | some x, some u => ak g x u | _, _ => False)
 (ha : cI 0 lo = some a) (hb : cI len hi = some b) (h0 : 0 <= a) (h1 : a <= b) (h2 : b <= len) (h3 : len <= cap) :
 (Instr.sliceBounds isS len cap vl vh none).run P w = .ok (a.toNat, b.toNat, cap) w := by
 rcases wj hl ha with ⟨_, rfl, rfl⟩ | ⟨k, u, rfl, hu, _⟩ <;> rcases wj hh hb with ⟨_, rfl, rfl⟩ | ⟨k', u', rfl, kF, _⟩
 · simp [Instr.sliceBounds]
 · have e1 : ∀ c, (Instr.sliceBound u' cap c).run P w = .ok b.toNat w := fun c => run_sliceBound kF (by omega) (by omega)
   simp [Instr.sliceBounds, e1]
 · have e1 : ∀ c, (Instr.sliceBound u len c).run P w = .ok a.toNat w := fun c => run_sliceBound hu h0 (by omega)
   simp [Instr.sliceBounds, e1]
 · have e1 : ∀ c, (Instr.sliceBound u' cap c).run P w = .ok b.toNat w := fun c => run_sliceBound kF (by omega) (by omega)
   have e2 : ∀ c, (Instr.sliceBound u b.toNat c).run P w = .ok a.toNat w := fun c => run_sliceBound hu h0 (by omega)
   simp [Instr.sliceBounds, e1, e2]
theorem CZ (h : aQ g U w) {t : TypeId} {x : AV} {v : Value} {lo hi : Option AV} {vl vh : Option Value} (hx : ak g x v)
 (hl : match lo, vl with | none, none => True | some x, some u => ak g x u | _, _ => False) (hh : match hi, vh with | none, none => True | some x, some u => ak g x u | _, _ => False) :
 aA.Fits C g U (BX C.P t x lo hi) ((do let r <- Instr.sliceAt t v vl vh none; pure (Next.value r) : Sem Next).run C.P w) := by
 have gz : ∀ ax off j, (⟨ax, off, none⟩ : Addr).add j = ⟨ax, off + j, none⟩ := fun ax off j => by unfold Addr.add; split <;> simp_all
 unfold BX
 split
 · rename_i s
   split
   · rename_i a b ht ha hb
     rintro ⟨h0, h1, h2⟩
     simp only [ak] at hx
     subst hx
     have cY : (ByteArray.mk s.toArray).size = s.length := by simp [ByteArray.size]
     have hr := jN (w := w) (P := C.P) (isS := false) hl hh ha hb h0 h1 h2 (cA _)
     simp only [Instr.sliceAt, Instr.slice, run_underlying (lf ht), bo, bG, cY, hr, bK, Option.isSome_none, bl, if_false]
     refine aK h ?_
     simp only [ak]
     congr 1
     apply ByteArray.ext
     simp only [ByteArray.data_extract]
     apply Array.ext'
     simp [List.extract_eq_take_drop, List.drop_take]
   · trivial
 · rename_i n cap l
   split
   · rename_i e sz a b ht ha hb
     rintro ⟨h0, h1, h2⟩
     simp only [ak] at hx
     obtain ⟨ax, off, c, vs, rfl, yV, qy, th, jF, hr⟩ := hx
     obtain ⟨i, z, hu, gA, hz, qC, rfl, lB, _⟩ := eW ht
     have eC := jN (w := w) (P := C.P) (isS := true) hl hh ha hb h0 h1 h2 yV
     simp only [Instr.sliceAt, Instr.slice, run_underlying hu, bo, bG, eC, bK, c6 gA]
     refine aK h ?_
     have Tv : l9 g (rl cap hi) ax (if c = a.toNat then off else off + a.toNat * i.size) (b.toNat - a.toNat) (c - a.toNat) := by
      cases cap with
      | full =>
        cases hi with
        | none =>
          simp only [rl, l9] at th ⊢
          simp only [cI, fy] at hb
          omega
        | some y => trivial
      | own τ => trivial
      | gq => trivial
     simp only [ak]
     refine ⟨ax, if c = a.toNat then off else off + a.toNat * i.size, c - a.toNat, (vs.take (b.toNat * i.size)).drop (a.toNat * i.size), ?_, by omega, by omega, Tv, ?_, (hr.take _).drop _⟩
     · simp only [Option.map_some, gz]
       split <;> rfl
     · split
       · rename_i e1
         have : (vs.take (b.toNat * i.size)).drop (a.toNat * i.size) = [] := by
          rw [List.drop_eq_nil_iff]
          have : b.toNat <= a.toNat := by omega
          have := Nat.mul_le_mul_right i.size this
          simp; omega
         rw [this]; intro j u hu; simp at hu
       · intro j u hu
         rw [List.getElem?_drop, List.getElem?_take] at hu
         split at hu
         · have := jF _ u hu
           rw [Nat.add_assoc]; exact this
         · cases hu
   · trivial
 · split
   · rename_i e sz a b ht ha hb
     rintro ⟨rfl, rfl⟩
     simp only [ak] at hx
     subst hx
     obtain ⟨i, z, hu, gA, hz, qC, rfl, lB, _⟩ := eW ht
     have eC := jN (w := w) (P := C.P) (isS := true) (len := 0) (cap := 0) hl hh ha (by simpa using hb) (by omega) (by omega) (by simp) (cA _)
     simp only [Instr.sliceAt, Instr.slice, run_underlying hu, bo, bG, eC, bK, c6 gA]
     refine aK h (by simp [ak])
   · trivial
 · rename_i b off n fI e
   split
   · rename_i e' sz a ZI ht ha hb
     rintro ⟨h0, h1, h2, h3, rfl⟩
     simp only [ak] at hx
     obtain ⟨y, c, hy, rfl, yV, qy, cY, QY⟩ := hx
     obtain ⟨i, z, hu, gA, hz, qC, rfl, lB, _⟩ := eW ht
     have eC := jN (w := w) (P := C.P) (isS := true) hl hh ha hb h0 h1 h2 yV
     simp only [Instr.sliceAt, Instr.slice, run_underlying hu, bo, bG, eC, bK, c6 gA]
     refine aK h ?_
     simp only [ak]
     have e2 : off + a.toNat * i.size + (c - a.toNat) * i.size = y.size := by
      have : a.toNat * i.size + (c - a.toNat) * i.size = c * i.size := by rw [<- Nat.add_mul]; congr 1; omega
      omega
     refine ⟨y, c - a.toNat, hy, ?_, by omega, by omega, e2, QY⟩
     simp only [Option.map_some, gz]
     split
     · rename_i e1
       have Xm : a.toNat = 0 := by omega
       simp [Xm]
     · rfl
   · trivial
 · trivial
def gL (op : UnOp) (x : AV) : aA :=
 match op, x with
 | .not, .bool b => .val (.bool (!b))
 | .neg, .int k n => eZ k (0 - n)
 | _, _ => .bad
theorem Cl (h : aQ g U w) (k : IntKind) (n : Int) : aA.Fits C g U (eZ k n) (.ok (.value (.int k (k.wrap n))) w) := by
 unfold eZ
 split
 · intro hi
   rw [sn hi]
   exact aK h (by simp only [ak])
 · exact aK h (by simp only [ak])
theorem LM (h : aQ g U w) {op : UnOp} {x : AV} {v : Value} (hx : ak g x v) : aA.Fits C g U (gL op x) ((do let r <- Op.unary op v; pure (Next.value r) : Sem Next).run C.P w) := by
 unfold gL
 split
 · simp only [ak] at hx; subst hx
   exact aK h (by simp only [ak])
 · simp only [ak] at hx; subst hx
   simp only [Op.unary, Op.intArith, bo, bK, bG]
   exact Cl h _ _
 · trivial
def EJ (P : Program) (t : TypeId) : Option IntKind := match P.underlying t with | some (.int k) => some k | _ => none
def rD (P : Program) (t : TypeId) : Bool := match P.underlying t with
 | some (.slice e) => match P.underlying e with
   | some (.int .u8) => true
   | _ => false
 | _ => false
theorem zH {P : Program} {t : TypeId} (h : rD P t = true) : ∃ e, P.underlying t = some (.slice e) /\ P.underlying e = some (.int .u8) := by
 unfold rD at h
 split at h
 · rename_i e he
   split at h
   · rename_i hu; exact ⟨e, he, hu⟩
   · cases h
 · cases h
def zO (P : Program) (src dst : TypeId) (x : AV) : aA :=
 match EJ P dst, (P.underlying src).isSome, x with
 | some .i64, true, .int _ n => .cond (su n) (.val (.int .i64 n))
 | some k, true, .int _ n => .val (.int k (k.wrap n))
 | none, true, .str s => if jv P dst = true /\ jv P src = true then .val (.str s) else
   if rD P dst = true /\ jv P src = true then .cond (s.length <= 4294967296) (.val (.vec s.length .gq (s.map fun b => .int .u8 b.toNat))) else .bad
 | _, _, _ => .bad
theorem zK (h : aQ g U w) {src dst e : TypeId} {s : List UInt8} (hd : C.P.underlying dst = some (.slice e)) (he : C.P.underlying e = some (.int .u8)) (hs : C.P.underlying src = some .string) (hlen : s.length <= 4294967296) :
 aA.Fits C g U (.val (.vec s.length .gq (s.map fun b => .int .u8 b.toNat))) ((do let r <- convert src dst (.string ⟨s.toArray⟩); pure (Next.value r) : Sem Next).run C.P w) := by
 have eC := Lib.run_convert_string_bytes (P := C.P) w src dst e ⟨s.toArray⟩ hs hd he
 have cY : (ByteArray.mk s.toArray).size = s.length := by simp [ByteArray.size]
 rw [cY] at eC
 have iX := grownCap_ge w s.length 0 e
 have hle := grownCap_le_maxLen w s.length 0 e (by unfold maxLen; omega)
 let vs : List Value := s.map fun b => .int .u8 b.toNat
 let g' : Gh := { g with bq := fun ax o => if ax = w.heap.size then vs[o]? else g.bq ax o }
 have lA : ∀ o, g'.bq w.heap.size o = vs[o]? := fun o => by show (if w.heap.size = w.heap.size then _ else _) = _; rw [if_pos rfl]
 have hold : ∀ ax o, ax ≠ w.heap.size -> g'.bq ax o = g.bq ax o := fun ax o hx => by show (if ax = w.heap.size then _ else _) = _; rw [if_neg hx]
 have Ez : Gh.Le g g' := ⟨rfl, rfl, fun _ _ h => h, fun ax o u hu => by
  rw [hold _ _ (fun e => by subst e; rw [h.ur (cA _)] at hu; cases hu)]; exact hu, fun _ _ h => h, fun _ h => h, fun q o hq => hold _ _ (by have := h.le; omega), fun _ _ => rfl⟩
 have c7 : aQ g' U (Lib.bytesWorld w e ⟨s.toArray⟩) := by
  refine h.change w.heap.size h.le Ez rfl rfl ⟨rfl, rfl, rfl, by rw [Lib.bytesWorld_size]; omega⟩ (fun k _ hk => Lib.bytesWorld_at_old w e _ k hk) hold (fun _ _ => rfl) (fun o u hu => ?_) (fun es c hr => ?_) (fun b x p k1 k2 => Nat.ne_of_lt (h.rP k1 k2)) (h.yq (cA _))
  · rw [lA] at hu
    simp only [vs, jm, kN] at hu
    obtain ⟨b, hb, rfl⟩ := hu
    have aH := (cT.1 hb).1
    refine ⟨?_, rfl⟩
    rw [Lib.bytesWorld_cell w e ⟨s.toArray⟩ o (by rw [cY]; exact aH)]
    simp [List.getD, hb]
  · have : g.bg w.heap.size = some (es, c) := hr
    rw [h.rz (cA _)] at this; cases this
 simp only [bo, eC, bG, bK]
 refine ⟨_, _, g', .inl rfl, Ez, c7, ?_⟩
 simp only [ak]
 refine ⟨w.heap.size, 0, _, vs, rfl, iX, hle, trivial, fun i u hu => by rw [ck, lA]; exact hu, ?_⟩
 refine ar.wW (by simp [vs]) fun i x v hx hv => ?_
 simp only [vs, jm, kN] at hx hv
 obtain ⟨b, hb, rfl⟩ := hx
 obtain ⟨b', dz, rfl⟩ := hv
 rw [hb] at dz; cases dz
 simp only [ak]
theorem Ea (h : aQ g U w) {src dst : TypeId} {x : AV} {v : Value} (hx : ak g x v) : aA.Fits C g U (zO C.P src dst x) ((do let r <- convert src dst v; pure (Next.value r) : Sem Next).run C.P w) := by
 unfold zO
 split
 · rename_i k n hk hs
   simp only [ak] at hx; subst hx
   have hu : C.P.underlying dst = some (.int .i64) := by unfold EJ at hk; split at hk <;> simp_all
   obtain ⟨d, hd⟩ := Option.isSome_iff_exists.1 hs
   intro hi
   simp only [convert, run_underlying hu, run_underlying hd, bo, bK, bG, Conv.intToInt]
   rw [sn hi]
   exact aK h (by simp only [ak])
 · rename_i k _ n _ hk hs
   simp only [ak] at hx; subst hx
   have hu : C.P.underlying dst = some (.int k) := by unfold EJ at hk; split at hk <;> simp_all
   obtain ⟨d, hd⟩ := Option.isSome_iff_exists.1 hs
   simp only [convert, run_underlying hu, run_underlying hd, bo, bK, bG, Conv.intToInt]
   exact aK h (by simp only [ak])
 · split
   · rename_i hc
     simp only [ak] at hx; subst hx
     simp only [convert, run_underlying (lf hc.1), run_underlying (lf hc.2), bo, bK, bG]
     exact aK h (by simp only [ak])
   · split
     · rename_i hc
       intro hlen
       simp only [ak] at hx; subst hx
       obtain ⟨e, hd, he⟩ := zH hc.1
       exact zK h hd he (lf hc.2) hlen
     · trivial
 · trivial
def tD (P : Program) (t : TypeId) : Bool := match P.underlying t with | some (.interface _) => false | some _ => true | none => false
def rH (P : Program) (t : TypeId) (x : AV) : aA := if tD P t = true then .val (.iface t x) else .bad
theorem wU (h : aQ g U w) {t : TypeId} {x : AV} {v : Value} (hx : ak g x v) : aA.Fits C g U (rH C.P t x) ((do let r <- Instr.makeInterface t v; pure (Next.value r) : Sem Next).run C.P w) := by
 unfold rH
 split
 · rename_i hc
   unfold tD at hc
   split at hc
   · cases hc
   · rename_i d hn hd
     simp only [Instr.makeInterface, run_underlying hd, bo, bG]
     cases d
     case interface => exact (hn _ rfl).elim
     all_goals
      simp only [bK, bG]
      exact aK h (by simp only [ak]; exact ⟨v, rfl, hx⟩)
   · cases hc
 · trivial
def aV (x : AV) (i : Nat) : aA :=
 match x with
 | .aL l => eR (l.drop i)
 | _ => .bad
theorem zE (h : aQ g U w) {x : AV} {v : Value} (hx : ak g x v) (i : Nat) : aA.Fits C g U (aV x i) ((do let r <- Instr.extract v i; pure (Next.value r) : Sem Next).run C.P w) := by
 unfold aV
 split
 · rename_i l
   simp only [ak] at hx
   obtain ⟨vs, rfl, hr⟩ := hx
   cases hd : l.drop i with
   | nil => trivial
   | cons y ys =>
     have hy : l[i]? = some y := by
      have := congrArg (fun l => l[0]?) hd
      simpa using this
     obtain ⟨u, hu, YH⟩ := hr.get hy
     have e : vs.toArray[i]? = some u := by simpa using hu
     simp only [Instr.extract, e, bo, bK, bG]
     exact aK h YH
 · trivial
def oW (x : AV) : aA :=
 match x with
 | .iface t v => .panic (.iface t v)
 | _ => .bad
theorem CQ (h : aQ g U w) {x : AV} {v : Value} (hx : ak g x v) : aA.Fits C g U (oW x) ((do let r <- Instr.panic v; pure (Next.value r) : Sem Next).run C.P w) := by
 unfold oW
 split
 · have gU := hx
   simp only [ak] at hx
   obtain ⟨u, rfl, hu⟩ := hx
   simp only [Instr.panic, bo, run_goPanic, Result.andThen_halt]
   exact ⟨_, w, rfl, h, gU⟩
 · trivial
theorem yk (h : aQ g U w) {ev : Operand -> Value} {o : Oper} {X : Operand} {x : AV} (ho : o.op = .nilCheck X) (hx : ak g x (ev X)) : aA.Fits C g U (a8 x) ((execOp ev o).run C.P w) := by
 unfold a8
 split
 · have gU := hx
   simp only [ak] at hx
   obtain ⟨y, _, hv⟩ := hx
   simp only [execOp, ho, hv, bK]
   rw [hv] at gU
   exact aK h gU
 · have gU := hx
   simp only [ak] at hx
   obtain ⟨_, _, _, hv, _⟩ := hx
   simp only [execOp, ho, hv, bK]
   rw [hv] at gU
   exact aK h gU
 · have gU := hx
   simp only [ak] at hx
   obtain ⟨_, _, hv, _⟩ := hx
   simp only [execOp, ho, hv, bK]
   rw [hv] at gU
   exact aK h gU
 · trivial
def ET (P : Program) (t : TypeId) : Option Bool :=
 match P.underlying t with
 | some .string => some true
 | some (.slice _) => some false
 | _ => none
def Br (P : Program) (t : TypeId) (x : AV) (U : St) : aA :=
 match ET P t, x with
 | some true, .str s => .val (.int .i64 s.length)
 | some false, .vec n _ _ => .val (.int .i64 n)
 | some false, .ms _ _ n _ _ => .val (.int .i64 n)
 | some false, .aq => .val (.int .i64 0)
 | _, _ => .bad
theorem pz {P : Program} {t : TypeId} {b : Bool} (h : ET P t = some b) : (b = true /\ P.underlying t = some .string) \/ (b = false /\ ∃ e, P.underlying t = some (.slice e)) := by
 unfold ET at h
 split at h
 · rename_i e; simp at h; exact .inl ⟨h, e⟩
 · rename_i e' e; simp at h; exact .inr ⟨h, _, e⟩
 · cases h
theorem Ha (h : aQ g U w) {t ty : TypeId} {x : AV} {v : Value} (hx : ak g x v) : aA.Fits C g U (Br C.P t x U) ((do let r <- Builtin.len_ #[t] ty #[v]; pure (Next.value r) : Sem Next).run C.P w) := by
 unfold Br
 split
 · rename_i s Bb
   have hu : C.P.underlying t = some .string := by rcases pz Bb with ⟨_, h⟩ | ⟨h, _⟩ <;> first | exact h | cases h
   simp only [ak] at hx; subst hx
   have cY : (ByteArray.mk s.toArray).size = s.length := by simp [ByteArray.size]
   simp [Builtin.len_, run_underlying hu, goInt, cY]
   exact aK h (by simp only [ak])
 · rename_i Bb
   obtain ⟨e0, hu⟩ : ∃ e, C.P.underlying t = some (.slice e) := by rcases pz Bb with ⟨h, _⟩ | ⟨_, h⟩ <;> first | exact h | cases h
   simp only [ak] at hx
   obtain ⟨_, _, _, _, rfl, _⟩ := hx
   simp [Builtin.len_, run_underlying hu, goInt]
   exact aK h (by simp only [ak])
 · rename_i Bb
   obtain ⟨e0, hu⟩ : ∃ e, C.P.underlying t = some (.slice e) := by rcases pz Bb with ⟨h, _⟩ | ⟨_, h⟩ <;> first | exact h | cases h
   simp only [ak] at hx
   obtain ⟨_, _, _, rfl, _⟩ := hx
   simp [Builtin.len_, run_underlying hu, goInt]
   exact aK h (by simp only [ak])
 · rename_i Bb
   obtain ⟨e0, hu⟩ : ∃ e, C.P.underlying t = some (.slice e) := by rcases pz Bb with ⟨h, _⟩ | ⟨_, h⟩ <;> first | exact h | cases h
   simp only [ak] at hx; subst hx
   simp [Builtin.len_, run_underlying hu, goInt]
   exact aK h (by simp only [ak])
 · trivial
def tA (x y : AV) : aA :=
 match x, y with
 | .int k a, .int k' b => if k = k' then .val (.int k (if b < a then b else a)) else .bad
 | _, _ => .bad
def vG (x y : AV) : aA :=
 match x, y with
 | .int k a, .int k' b => if k = k' then .val (.int k (if b > a then b else a)) else .bad
 | _, _ => .bad
theorem Hg (h : aQ g U w) {ts : Array TypeId} {ty : TypeId} {x y : AV} {v u : Value} (hx : ak g x v) (hy : ak g y u) : aA.Fits C g U (vG x y) ((do let r <- Builtin.max_ ts ty #[v, u]; pure (Next.value r) : Sem Next).run C.P w) := by
 unfold vG
 split
 · split
   · rename_i e; subst e
     simp only [ak] at hx hy; subst hx hy
     simp [Builtin.max_, Builtin.max2]
     exact aK h (by simp only [ak])
   · trivial
 · trivial
theorem Hh (h : aQ g U w) {ts : Array TypeId} {ty : TypeId} {x y : AV} {v u : Value} (hx : ak g x v) (hy : ak g y u) : aA.Fits C g U (tA x y) ((do let r <- Builtin.min_ ts ty #[v, u]; pure (Next.value r) : Sem Next).run C.P w) := by
 unfold tA
 split
 · split
   · rename_i e; subst e
     simp only [ak] at hx hy; subst hx hy
     simp [Builtin.min_, Builtin.min2]
     exact aK h (by simp only [ak])
   · trivial
 · trivial
end
end Go.Rip
namespace Go.Rip
open Go.RowKit
section
variable {C : bQ} {g : Gh} {U : St} {w : World}
def dY (place : Nat -> Option (Nat × Nat)) : List (Nat × AV) -> List AV -> (List AV -> aA) -> aA
 | [], z, k => k z
 | (i, x) :: rest, z, k => match place i with
   | some (off, size) => .cond (x.cr = true /\ (au x).length = size /\ off + size <= z.length) (dY place rest (aB z off (au x)) k)
   | none => .bad
theorem tb (off : Nat) : ∀ (l : List Value) (j : Nat) (cs : Array Value), off + j + l.length <= cs.size ->
 ((l.zipIdx j).foldl (fun (cs : Array Value) (p : Value × Nat) => cs.setIfInBounds (off + p.2) p.1) cs).toList = cs.toList.take (off + j) ++ l ++ cs.toList.drop (off + j + l.length)
 | [], j, cs, _ => by simp
 | v :: l, j, cs, hle => by
   simp only [List.zipIdx_cons, List.foldl_cons]
   simp only [mB] at hle
   rw [tb off l (j + 1) _ (by simp; omega)]
   have hs := list_seg_step cs.toList (off + j) v l (by simpa using hle)
   rw [Array.toList_setIfInBounds]
   rw [show off + (j + 1) = off + j + 1 from rfl]
   exact hs
theorem pe {place : Nat -> Option (Nat × Nat)} {k : List AV -> aA} {kk : Array Value -> Sem Value} {S : String}
 (hk : ∀ (z : List AV) (cs : Array Value), ar g z cs.toList -> (∀ u ∈ cs.toList, u.oneCell' = true) -> aA.Fits C g U (k z) ((do let r <- kk cs; pure (Next.value r) : Sem Next).run C.P w)) :
 ∀ (parts : List (Nat × AV)) (vs : List (Nat × Value)) (z : List AV) (cs : Array Value), vs.length = parts.length -> (∀ (i : Nat) (p : Nat × AV) (q : Nat × Value), parts[i]? = some p -> vs[i]? = some q -> p.1 = q.1 /\ ak g p.2 q.2) ->
  ar g z cs.toList -> (∀ u ∈ cs.toList, u.oneCell' = true) ->
  aA.Fits C g U (dY place parts z k) ((do let r <- (match Instr.fill place cs vs with | some wu => kk wu | none => stuck S); pure (Next.value r) : Sem Next).run C.P w)
 | [], [], z, cs, _, _, hz, h1 => by
   simp only [dY, Instr.fill]
   exact hk z cs hz h1
 | [], _ :: _, _, _, h, _, _, _ => by simp at h
 | _ :: _, [], _, _, h, _, _, _ => by simp at h
 | (i, x) :: parts, (j, v) :: vs, z, cs, hl, hp, hz, h1 => by
   obtain ⟨rfl, hx⟩ := hp 0 _ _ rfl rfl
   dsimp only at hx ⊢
   simp only [dY]
   cases oK : place i with
   | none => trivial
   | some os =>
     obtain ⟨off, size⟩ := os
     rintro ⟨a1, a2, a3⟩
     obtain ⟨tg, uR⟩ := sV hx a1
     have hlen := tg.length
     have Be := hz.length
     have tq : v.cells.size = size := by rw [<- nK, hlen, a2]
     have XM : off + v.cells.size <= cs.size := by rw [tq, <- nK, Be]; exact a3
     have e : (v.cells.zipIdx.foldl (fun (cs : Array Value) (p : Value × Nat) => cs.setIfInBounds (off + p.2) p.1) cs).toList = cs.toList.take off ++ v.cells.toList ++ cs.toList.drop (off + v.cells.toList.length) := by
      rw [<- Array.foldl_toList, Array.toList_zipIdx]
      have := tb off v.cells.toList 0 cs (by simpa using XM)
      simpa using this
     have Tw : (v.cells.size ≠ size || off + v.cells.size > cs.size) = false := by simp [tq]; omega
     simp only [Instr.fill, oK]
     rw [if_neg (by rw [Tw]; simp)]
     refine pe hk parts vs _ _ (by simpa using hl) (fun i p q h2 h3 => hp (i + 1) p q (by simpa using h2) (by simpa using h3)) ?_ ?_
     · show ar g (aB z off (au x)) (v.cells.zipIdx.foldl (fun (cs : Array Value) (p : Value × Nat) => cs.setIfInBounds (off + p.2) p.1) cs).toList
       rw [e]
       unfold aB
       rw [hlen]
       exact ((hz.take _).append tg).append (hz.drop _)
     · show ∀ u ∈ (v.cells.zipIdx.foldl (fun (cs : Array Value) (p : Value × Nat) => cs.setIfInBounds (off + p.2) p.1) cs).toList, u.oneCell' = true
       rw [e]
       intro u hu
       simp only [fx] at hu
       rcases hu with (hu | hu) | hu
       · exact h1 u (List.mem_of_mem_take hu)
       · exact uR u hu
       · exact h1 u (List.mem_of_mem_drop hu)
def iB (C : bQ) (ρ : Env) (parts : Array (Nat × Operand)) : List (Nat × AV) := parts.toList.map fun p => (p.1, ρ.ev C p.2)
def Ap (P : Program) (t : TypeId) (parts : List (Nat × AV)) : aA :=
 match uE P t, ly P t with
 | some pl, some z => dY (fun i => pl[i]?) parts z fun z => .val (.agg z)
 | none, some z => match pR P t with
   | some (_, _, sz) => dY (fun i => some (i * sz, sz)) parts z fun z => .val (.agg z)
   | none => .bad
 | _, _ => .bad
theorem B3 {P : Program} {t : TypeId} {pl : List (Nat × Nat)} (h : uE P t = some pl) : ∃ fs : Array Field, P.underlying t = some (.struct fs) /\ pl = fs.toList.map (fun f => (f.offset, P.cellsOf f.type)) /\
 (fs.mapM (fun f => do pure (f.offset, <- sizeOf f.type) : Field -> Sem (Nat × Nat))).run P w = .ok pl.toArray w := by
 unfold uE at h
 split at h
 · rename_i fs hu
   split at h
   · rename_i bw
     simp only [fy] at h
     refine ⟨fs, hu, h.symm, ?_⟩
     rw [Array.mapM_eq_mapM_toList]
     rw [Array.all_eq_true_iff_forall_mem] at bw
     have key : ∀ l : List Field, (∀ f ∈ l, (P.info? f.type).isSome = true) -> (l.mapM (fun f => do pure (f.offset, <- sizeOf f.type) : Field -> Sem (Nat × Nat))).run P w = .ok (l.map fun f => (f.offset, P.cellsOf f.type)) w := by
      intro l
      induction l with
      | nil => intro _; simp
      | cons f l ih =>
        intro hf
        obtain ⟨i, hi⟩ := Option.isSome_iff_exists.1 (hf f (by simp))
        have YL := ih fun x hx => hf x (by simp [hx])
        have hc : P.cellsOf f.type = i.size := by simp [Program.cellsOf, hi]
        simp only [List.mapM_cons, bo, c6 hi, bG, bK, YL, de, hc]
     have := key fs.toList (fun f hf => bw f (by simpa using hf))
     simp only [Sem.run_map, this, bG, h]
   · cases h
 · cases h
theorem Cp (h : aQ g U w) {t : TypeId} {parts : List (Nat × AV)} {vs : Array (Nat × Value)} (hl : vs.size = parts.length) (hp : ∀ (i : Nat) (p : Nat × AV) (q : Nat × Value), parts[i]? = some p -> vs[i]? = some q -> p.1 = q.1 /\ ak g p.2 q.2) :
 aA.Fits C g U (Ap C.P t parts) ((do let r <- Instr.build t vs; pure (Next.value r) : Sem Next).run C.P w) := by
 unfold Ap
 split
 · rename_i pl z hs hz
   obtain ⟨fs, hu, oK, eC⟩ := B3 (w := w) hs
   obtain ⟨i, zv, hi, oN, hm⟩ := jt hz
   obtain ⟨h1, h2⟩ := cZ (g := g) hm
   have key := pe (C := C) (g := g) (U := U) (w := w) (place := fun i => pl.toArray[i]?) (k := fun z => .val (.agg z)) (kk := fun cs => pure (.agg cs)) (S := "build: no such field, or a part of the wrong size") (fun z cs hz h1 => by
    simp only [bo, bK, bG]
    exact aK h (by simp only [ak]; exact ⟨cs.toList, by simp, h1, hz⟩)) parts vs.toList z zv.cells (by simpa using hl) (fun i p q h1 h2 => hp i p q h1 (by simpa using h2)) h1 h2
   have e : (fun i : Nat => pl.toArray[i]?) = fun i => pl[i]? := by funext i; simp
   rw [<- e]
   simp only [Instr.build, bo, ek hi oN, bG, run_underlying hu, eC]
   cases hf : Instr.fill (fun i : Nat => pl.toArray[i]?) zv.cells vs.toList with
   | none => simp only [hf, bo, run_stuck, Result.andThen_halt] at key ⊢; exact key
   | some wu => simp only [hf, bo, bK, bG] at key ⊢; exact key
 · rename_i z hs hz
   split
   · rename_i n e sz ha
     obtain ⟨ie, hu, Mm, cY⟩ := pb ha
     obtain ⟨i, zv, hi, oN, hm⟩ := jt hz
     obtain ⟨h1, h2⟩ := cZ (g := g) hm
     have key := pe (C := C) (g := g) (U := U) (w := w) (place := fun i => some (i * sz, sz)) (k := fun z => .val (.agg z)) (kk := fun cs => pure (.agg cs)) (S := "build: a part of the wrong size") (fun z cs hz h1 => by
      simp only [bo, bK, bG]
      exact aK h (by simp only [ak]; exact ⟨cs.toList, by simp, h1, hz⟩)) parts vs.toList z zv.cells (by simpa using hl) (fun i p q h1 h2 => hp i p q h1 (by simpa using h2)) h1 h2
     simp only [Instr.build, bo, ek hi oN, bG, run_underlying hu, c6 Mm, cY]
     cases hf : Instr.fill (fun i : Nat => some (i * sz, sz)) zv.cells vs.toList with
     | none => simp only [hf, bo, run_stuck, Result.andThen_halt] at key ⊢; exact key
     | some wu => simp only [hf, bo, bK, bG] at key ⊢; exact key
   · trivial
 · trivial
end
end Go.Rip
namespace Go.Rip
open Go.RowKit
section
variable {C : bQ} {g : Gh} {U : St} {w : World}
def bp : Nat -> List AV -> List AV
 | 0, _ => []
 | n + 1, z => z ++ bp n z
theorem gP (z : List AV) : ∀ n, (bp n z).length = n * z.length
 | 0 => by simp [bp]
 | n + 1 => by simp [bp, gP z n, Nat.add_mul]; omega
theorem om {z : List AV} {zv : Array Value} (hz : ar g z zv.toList) : ∀ n, ar g (bp n z) ((Array.range (n * zv.size)).map (zv[· % zv.size]!)).toList := fun n => by
 have hl : z.length = zv.size := by rw [<- hz.length]; simp
 refine ar.wW (by simp [gP, hl]) fun i x v hx hv => ?_
 have key : ∀ n i x, (bp n z)[i]? = some x -> z[i % zv.size]? = some x := fun n => by
  induction n with
  | zero => intro i x hx; simp [bp] at hx
  | succ n ih =>
    intro i x hx
    simp only [bp] at hx
    by_cases hi : i < z.length
    · rw [rW hi] at hx
      rw [Nat.mod_eq_of_lt (by omega)]; exact hx
    · rw [List.getElem?_append_right (by omega)] at hx
      have := ih _ _ hx
      rw [hl, <- Nat.mod_eq_sub_mod (by omega)] at this
      exact this
 have gU := key n i x hx
 obtain ⟨u, hu, hr⟩ := hz.get gU
 simp only [Array.toList_map, jm, kN] at hv
 obtain ⟨j, hj, rfl⟩ := hv
 have Dm : j = i := by
  rw [gE, Array.getElem?_range] at hj
  split at hj
  · simp at hj; exact hj.symm
  · cases hj
 subst Dm
 have aH : j % zv.size < zv.size := by
  have := (cT.1 hu).1
  simpa using this
 rw [getElem!_pos zv _ aH]
 rw [gE, getElem?_pos zv _ aH] at hu
 cases hu
 exact hr
def nc (P : Program) (t : TypeId) (n : Nat) (mu : Bool) (parts : List (Nat × AV)) : aA :=
 match dk P t with
 | some (e, sz) => match ly P e with
   | some z => .cond (n * sz <= 16777216) (dY (fun i => some (i * sz, sz)) parts (bp n z) fun cs => .cond (cs.length = n * sz) (if mu then .ku n sz e none cs else .val (.vec n .full cs)))
   | none => .bad
 | none => .bad
theorem vu (h : aQ g U w) {t : TypeId} {n : Nat} {mu : Bool} {parts : List (Nat × AV)} {vs : Array (Nat × Value)} (hl : vs.size = parts.length) (hp : ∀ (i : Nat) (p : Nat × AV) (q : Nat × Value), parts[i]? = some p -> vs[i]? = some q -> p.1 = q.1 /\ ak g p.2 q.2) :
 aA.Fits C g U (nc C.P t n mu parts) ((do let r <- Instr.buildSlice t n vs; pure (Next.value r) : Sem Next).run C.P w) := by
 unfold nc
 split
 · rename_i e sz hs
   split
   · rename_i z hz
     intro hn
     obtain ⟨i, zv, hu, hi, jW, qC, rfl, lB, _, h1⟩ := eW hs
     obtain ⟨i', Sy, gA, oN, hm⟩ := jt hz
     rw [hi] at gA; cases gA
     rw [jW] at oN; cases oN
     obtain ⟨h1, h2⟩ := cZ (g := g) hm
     have KB : ¬ (n * i.size > 2 ^ 24) := by omega
     have Q0 := om (g := g) h1 n
     have key := pe (C := C) (g := g) (U := U) (w := w) (place := fun j => some (j * i.size, i.size)) (k := fun cs => .cond (cs.length = n * i.size) (if mu then .ku n i.size e none cs else .val (.vec n .full cs)))
      (kk := fun cs => do pure (.slice (some (<- newRow e cs)) n n)) (S := "buildSlice: a part of the wrong size") (fun z cs hz tg => by
      intro hlen
      have oE : cs.size = n * i.size := by rw [<- nK, hz.length, hlen]
      have yW : n <= maxLen := by
       have : n <= n * i.size := Nat.le_mul_of_pos_right _ lB
       unfold maxLen; omega
      simp only [newRow, bo, bK, run_newObj, bG]
      split
      · have := mg (C := C) (del := none) (e := e) (sz := i.size) (n := n) (c := n) h (vs := cs.toList) (rest := []) hz tg (by simp) (by simp [oE]) (cA _) yW
        simpa using this
      · obtain ⟨g', hle, jF, _, _, c7⟩ := h.Hl e cs cs.toList [] (by simp) tg
        refine ⟨_, _, g', .inl rfl, hle, c7, ?_⟩
        simp only [ak]
        exact ⟨w.heap.size, 0, n, cs.toList, rfl, cA _, yW, rfl, jF, hz.mono hle⟩) parts vs.toList (bp n z) ((Array.range (n * zv.cells.size)).map (zv.cells[· % zv.cells.size]!)) (by simpa using hl) (fun i p q h1 h2 => hp i p q h1 (by simpa using h2)) Q0 (by
        intro u hu
        simp only [Array.toList_map, List.mem_map] at hu
        obtain ⟨j, _, rfl⟩ := hu
        have aH : j % zv.cells.size < zv.cells.size := Nat.mod_lt _ (by omega)
        rw [getElem!_pos zv.cells _ aH]
        exact h2 _ (by simp))
     simp only [Instr.buildSlice, bo, run_underlying hu, c6 hi, bG, if_neg KB, dj, ek hi jW, bK]
     by_cases h0 : n * i.size = 0
     · have wL : n = 0 := by
        rcases Nat.mul_eq_zero.1 h0 with h | h
        · exact h
        · omega
       subst wL
       simp only [Nat.zero_mul, if_true, bG] at key ⊢
       have e1 : (Array.range 0).map ((#[] : Array Value)[· % (#[] : Array Value).size]!) = (Array.range 0).map (zv.cells[· % zv.cells.size]!) := by simp
       rw [e1]
       cases hf : Instr.fill (fun j => some (j * i.size, i.size)) ((Array.range 0).map (zv.cells[· % zv.cells.size]!)) vs.toList with
       | none => simp only [hf, bo, run_stuck, Result.andThen_halt] at key ⊢; exact key
       | some wu => simp only [hf, bo, bK, bG] at key ⊢; exact key
     · simp only [if_neg h0, bG]
       rw [qC] at key ⊢
       cases hf : Instr.fill (fun j => some (j * i.size, i.size)) ((Array.range (n * i.size)).map (zv.cells[· % i.size]!)) vs.toList with
       | none => simp only [hf, bo, run_stuck, Result.andThen_halt] at key ⊢; exact key
       | some wu => simp only [hf, bo, bK, bG] at key ⊢; exact key
   · trivial
 · trivial
def mx (P : Program) (t : TypeId) : Option (FK × TypeId) :=
 match P.underlying t with
 | some (.map k e) => match P.underlying k with
   | some (.int _) => some (.i, e)
   | some .string => some (.s, e)
   | _ => none
 | _ => none
def eD : FK -> AV -> AV -> Option Bool
 | .i, .int k a, .int k' b => if k = k' then some (a == b) else none
 | .s, .str a, .str b => some (a == b)
 | _, _, _ => none
def mq : FK -> AV -> Bool
 | .i, .int _ _ => true
 | .s, .str _ => true
 | _, _ => false
def iv (fk : FK) (k : AV) : List AV -> Nat -> Option (Option Nat)
 | [], _ => some none
 | y :: ys, i => match eD fk k y with
   | none => none
   | some b => if b = true then some (some i) else iv fk k ys (i + 1)
def ep (k v : AV) : List AV -> List AV -> List AV × List AV
 | [], _ => ([k], [v])
 | y :: ys, ws => if fN k y = true then (k :: y :: ys, v :: ws) else
   match ws with
   | [] => ([k], [v])
   | x :: xs => (y :: (ep k v ys xs).1, x :: (ep k v ys xs).2)
def my (P : Program) (t : TypeId) (m k v : AV) (U : St) : aA :=
 match mx P t, m with
 | some (fk, _), .mp id => match U.mp id with
   | some (ks, vs) => match iv fk k ks 0, mq fk k with
     | some none, true => .ir (.aL []) id (.mp (ep k v ks vs).1 (ep k v ks vs).2)
     | some (some i), true => .ir (.aL []) id (.mp ks (vs.set i v))
     | _, _ => .bad
   | none => .bad
 | _, _ => .bad
def jb (U : St) : AV -> Option (List AV × List AV)
 | .mp id => U.mp id
 | .dL ks vs => some (ks, vs)
 | .iK => some ([], [])
 | _ => none
def jf (fk : FK) (k : AV) (sZ : AV) (ok : Bool) : List AV -> List AV -> aA
 | y :: ys, v :: vs => match eD fk k y with
   | none => .bad
   | some b => if b = true then .val (if ok then .aL [v, .bool true] else v) else jf fk k sZ ok ys vs
 | _, _ => .val (if ok then .aL [sZ, .bool false] else sZ)
def zeroV (P : Program) (t : TypeId) : Option AV := ((P.info? t).bind (·.zero)).map yN
def qJ (P : Program) (t : TypeId) (m k : AV) (ok : Bool) (U : St) : aA :=
 match mx P t, jb U m with
 | some (fk, e), some (ks, vs) => match zeroV P e, mq fk k with
   | some z, true => jf fk k z ok ks vs
   | _, _ => .bad
 | _, _ => .bad
theorem tz {P : Program} {t e : TypeId} {fk : FK} (h : mx P t = some (fk, e)) : ∃ k, P.underlying t = some (.map k e) /\ ((fk = .i /\ ∃ q, P.underlying k = some (.int q)) \/ (fk = .s /\ P.underlying k = some .string)) := by
 unfold mx at h
 split at h
 · rename_i k e' hu
   split at h
   · rename_i q hq
     simp only [fy, iM] at h
     obtain ⟨rfl, rfl⟩ := h
     exact ⟨k, hu, .inl ⟨rfl, q, hq⟩⟩
   · rename_i hq
     simp only [fy, iM] at h
     obtain ⟨rfl, rfl⟩ := h
     exact ⟨k, hu, .inr ⟨rfl, hq⟩⟩
   · cases h
 · cases h
theorem n0 {P : Program} {k : TypeId} {fk : FK} {d : TypeDesc} (hd : P.underlying k = some d) (hk : (fk = .i /\ ∃ q, d = .int q) \/ (fk = .s /\ d = .string)) {x y : AV} {u v : Value} {b : Bool} (hx : ak g x u) (hy : ak g y v) (h : eD fk x y = some b) :
 Instr.sameNow d u v = some b := by
 rcases hk with ⟨rfl, q, rfl⟩ | ⟨rfl, rfl⟩ <;> cases x <;> cases y <;> simp only [eD, reduceCtorEq] at h
 · split at h
   · rename_i e; subst e
     simp only [ak] at hx hy; subst hx hy
     simp at h; subst h
     simp [Instr.sameNow]
   · cases h
 · simp only [ak] at hx hy; subst hx hy
   simp only [fy] at h; subst h
   simp only [Instr.sameNow, beq_toListBytes, ByteArray.toList_eq, List.toList_toArray]
theorem findNow_spec {d : TypeDesc} {u : Value} : ∀ (es : List MapEntry) (i : Nat), (∀ e ∈ es, ∃ b, Instr.sameNow d u e.key = some b) ->
 ((∀ e ∈ es, Instr.sameNow d u e.key = some false) /\ Instr.findNow d u es i = some none) \/
 (∃ j e, es[j]? = some e /\ Instr.sameNow d u e.key = some true /\ Instr.findNow d u es i = some (some (i + j, e.val)))
 | [], i, _ => .inl ⟨by simp, by simp [Instr.findNow]⟩
 | e :: es, i, h => by
   obtain ⟨b, hb⟩ := h e (by simp)
   cases b
   · rcases findNow_spec es (i + 1) (fun x hx => h x (by simp [hx])) with ⟨h1, h2⟩ | ⟨j, e', h1, h2, h3⟩
     · refine .inl ⟨fun x hx => ?_, by simp [Instr.findNow, hb, h2]⟩
       rcases dD.1 hx with rfl | hx
       · exact hb
       · exact h1 x hx
     · exact .inr ⟨j + 1, e', by simpa using h1, h2, by simp [Instr.findNow, hb, h3]; omega⟩
   · exact .inr ⟨0, e, by simp, hb, by simp [Instr.findNow, hb]⟩
theorem pY {fk : FK} {k y : AV} (h : eD fk k y = some true) : k = y := by
 cases fk <;> cases k <;> cases y <;> simp only [eD, reduceCtorEq] at h
 · split at h
   · rename_i e; subst e; simp at h; rw [h]
   · cases h
 · simp at h; rw [h]
theorem EO (k : AV) : fN k k = false := by
 cases k <;> simp [fN]
theorem CK {a b c : AV} (h : fN a b = true) (h' : fN b c = true) : fN a c = true := by
 cases a <;> cases b <;> simp only [fN, bl] at h <;> cases c <;> simp only [fN, bl, bF, dp] at h h' ⊢
 · exact ⟨h.1.trans h'.1, by omega⟩
 · exact List.lt_trans h h'
theorem KK {fk : FK} {k y : AV} (h : eD fk k y = some false) : fN k y = true \/ fN y k = true := by
 cases fk <;> cases k <;> cases y <;> simp only [eD, reduceCtorEq] at h
 · split at h
   · rename_i e; subst e; simp at h; simp [fN]; omega
   · cases h
 · simp at h
   simp only [fN, dp]
   rcases Classical.em ((_ : List UInt8) < _) with hl | hl
   · exact .inl hl
   · refine .inr ?_
     rcases Classical.em ((_ : List UInt8) < _) with po | po
     · exact po
     · exact absurd (List.le_antisymm (List.not_lt.1 po) (List.not_lt.1 hl)) h
theorem wQ {fk : FK} {k y z : AV} (h : eD fk k y = some true) (hz : fN y z = true \/ fN z y = true) : ∃ b, eD fk k z = some b := by
 have := pY h
 subst this
 cases fk <;> cases k <;> cases z <;> simp [eD, fN] at h hz ⊢
 rcases hz with ⟨e, _⟩ | ⟨e, _⟩
 · exact e
 · exact e.symm
theorem ru {fk : FK} {k : AV} : ∀ {ks : List AV} {s : Nat} {r : Option Nat}, iv fk k ks s = some r ->
 (r = none /\ ∀ y ∈ ks, eD fk k y = some false) \/ (∃ i, r = some (s + i) /\ ∃ y, ks[i]? = some y /\ eD fk k y = some true)
 | [], s, r, h => by simp only [iv, fy] at h; exact .inl ⟨h.symm, by simp⟩
 | y :: ys, s, r, h => by
   simp only [iv] at h
   split at h
   · cases h
   · rename_i b hb
     cases b
     · simp only [bl, if_false] at h
       rcases ru h with ⟨h1, h2⟩ | ⟨i, h1, z, h2, h3⟩
       · refine .inl ⟨h1, fun z hz => ?_⟩
         rcases dD.1 hz with rfl | hz
         · exact hb
         · exact h2 z hz
       · exact .inr ⟨i + 1, by rw [h1]; congr 1; omega, z, by simpa using h2, h3⟩
     · simp only [if_true, fy] at h
       exact .inr ⟨0, by rw [<- h]; rfl, y, by simp, hb⟩
theorem Fw {ks : List AV} (h : kQ ks) {i j : Nat} {y : AV} (hi : ks[i]? = some y) (hj : ks[j]? = some y) : i = j := by
 have key : ∀ i j, i < j -> ks[i]? = some y -> ks[j]? = some y -> False := fun i j eJ hi hj => by
  obtain ⟨h1, h2⟩ := cT.1 hi
  obtain ⟨h3, h4⟩ := cT.1 hj
  have := List.pairwise_iff_getElem.1 h i j h1 h3 eJ
  rw [h2, h4, EO] at this; cases this
 rcases Nat.lt_trichotomy i j with h | h | h
 · exact (key i j h hi hj).elim
 · exact h
 · exact (key j i h hj hi).elim
theorem vB {P : Program} {kt : TypeId} {fk : FK} {d : TypeDesc} (hd : P.underlying kt = some d) (hk : (fk = .i /\ ∃ q, d = .int q) \/ (fk = .s /\ d = .string)) {x : AV} {u : Value} (hx : ak g x u)
 {ks : List AV} {l es : List MapEntry} (hp : l.Perm es) (hs : kQ ks) (hr : ar g ks (l.map (·.key))) {r : Option Nat} (h : iv fk x ks 0 = some r) :
 (r = none /\ (∀ y ∈ ks, eD fk x y = some false) /\ ∀ i, Instr.findNow d u es i = some none) \/
 (∃ i j e, r = some i /\ ks[i]? = some x /\ l[i]? = some e /\ es[j]? = some e /\ ak g x e.key /\ ∀ s, Instr.findNow d u es s = some (some (s + j, e.val))) := by
 have mem : ∀ e ∈ es, ∃ i y, ks[i]? = some y /\ l[i]? = some e /\ ak g y e.key := fun e he => by
  obtain ⟨i, hi⟩ := List.getElem?_of_mem (hp.mem_iff.2 he)
  have aH : i < ks.length := by
   have h1 := (cT.1 hi).1
   have := hr.length
   simp at this; omega
  obtain ⟨v, hv, GP⟩ := hr.get (i := i) (x := ks[i]) (j4 aH)
  rw [jm, hi] at hv
  simp at hv
  subst hv
  exact ⟨i, ks[i], j4 aH, hi, GP⟩
 rcases ru h with ⟨rfl, h1⟩ | ⟨i, rfl, y, h1, h2⟩
 · refine .inl ⟨rfl, h1, fun s => ?_⟩
   have hf : ∀ e ∈ es, Instr.sameNow d u e.key = some false := fun e he => by
    obtain ⟨i, y, hy, _, GS⟩ := mem e he
    exact n0 (P := P) hd hk hx GS (h1 y (fw hy))
   rcases findNow_spec es s (fun e he => ⟨_, hf e he⟩) with ⟨_, h2⟩ | ⟨j, e, q1, q2, _⟩
   · exact h2
   · rw [hf e (fw q1)] at q2; cases q2
 · have GQ := pY h2
   subst GQ
   have all : ∀ z ∈ ks, ∃ b, eD fk x z = some b := fun z hz => by
    obtain ⟨j, hj⟩ := List.getElem?_of_mem hz
    rcases Nat.lt_trichotomy i j with eJ | eJ | eJ
    · obtain ⟨a1, a2⟩ := cT.1 h1
      obtain ⟨a3, a4⟩ := cT.1 hj
      have := List.pairwise_iff_getElem.1 hs i j a1 a3 eJ
      rw [a2, a4] at this
      exact wQ h2 (.inl this)
    · subst eJ; rw [h1] at hj; cases hj; exact ⟨_, h2⟩
    · obtain ⟨a1, a2⟩ := cT.1 h1
      obtain ⟨a3, a4⟩ := cT.1 hj
      have := List.pairwise_iff_getElem.1 hs j i a3 a1 eJ
      rw [a2, a4] at this
      exact wQ h2 (.inr this)
   have same : ∀ e ∈ es, ∃ b, Instr.sameNow d u e.key = some b := fun e he => by
    obtain ⟨i, y, hy, _, GS⟩ := mem e he
    obtain ⟨b, hb⟩ := all y (fw hy)
    exact ⟨b, n0 (P := P) hd hk hx GS hb⟩
   have AU : ∃ e0, l[i]? = some e0 /\ ak g x e0.key := by
    obtain ⟨v, hv, GP⟩ := hr.get h1
    rw [jm, kN] at hv
    obtain ⟨e0, h3, rfl⟩ := hv
    exact ⟨e0, h3, GP⟩
   obtain ⟨e0, yS, Ql⟩ := AU
   have Uz : Instr.sameNow d u e0.key = some true := n0 (P := P) hd hk hx Ql h2
   have Xn : e0 ∈ es := hp.mem_iff.1 (fw yS)
   have pick : ∀ s, ∃ j, es[j]? = some e0 /\ Instr.findNow d u es s = some (some (s + j, e0.val)) := fun s => by
    rcases findNow_spec es s same with ⟨q1, _⟩ | ⟨j, e, q1, q2, q3⟩
    · rw [q1 e0 Xn] at Uz; cases Uz
    · obtain ⟨i', y, hy, yU, GS⟩ := mem e (fw q1)
      obtain ⟨b, hb⟩ := all y (fw hy)
      have Dv := n0 (P := P) hd hk hx GS hb
      rw [q2] at Dv
      simp only [fy] at Dv
      subst Dv
      have GQ := pY hb
      subst GQ
      have XZ := Fw hs h1 hy
      subst XZ
      rw [yS] at yU; cases yU
      exact ⟨j, q1, q3⟩
   obtain ⟨j, hj, X4⟩ := pick 0
   refine .inr ⟨i, j, e0, by rw [ck], h1, yS, hj, Ql, fun s => ?_⟩
   have shift : ∀ (es : List MapEntry) (a b : Nat) j v, Instr.findNow d u es a = some (some (a + j, v)) -> Instr.findNow d u es b = some (some (b + j, v)) := fun es => by
    induction es with
    | nil => intro a b j v h; simp [Instr.findNow] at h
    | cons e es ih =>
      intro a b j v h
      simp only [Instr.findNow] at h ⊢
      cases yZ : Instr.sameNow d u e.key with
      | none => rw [yZ] at h; cases h
      | some t =>
        rw [yZ] at h
        cases t
        · dsimp only at h ⊢
          have hle : ∀ (es : List MapEntry) (a : Nat) r v, Instr.findNow d u es a = some (some (r, v)) -> a <= r := fun es => by
           induction es with
           | nil => intro a r v h; simp [Instr.findNow] at h
           | cons e es ih =>
             intro a r v h
             simp only [Instr.findNow] at h
             cases yZ : Instr.sameNow d u e.key with
             | none => rw [yZ] at h; cases h
             | some t =>
               rw [yZ] at h
               cases t
               · have := ih _ _ _ h; omega
               · simp at h; omega
          have h1 := hle _ _ _ _ h
          have := ih (a + 1) (b + 1) (j - 1) v (by rw [h]; congr 3; omega)
          rw [this]; congr 3; omega
        · simp at h ⊢; obtain ⟨h1, h2⟩ := h; exact ⟨by omega, h2⟩
   exact shift es 0 s j _ X4
theorem K5 {α : Type} {l m : List α} (h : l.Perm m) {i j : Nat} {e : α} (hi : l[i]? = some e) (hj : m[j]? = some e) (e' : α) : (l.set i e').Perm (m.set j e') := by
 obtain ⟨h1, h2⟩ := cT.1 hi
 obtain ⟨h3, h4⟩ := cT.1 hj
 have el : l = l.take i ++ e :: l.drop (i + 1) := by
  conv => lhs; rw [<- List.take_append_drop i l, fT h1, h2]
 have em : m = m.take j ++ e :: m.drop (j + 1) := by
  conv => lhs; rw [<- List.take_append_drop j m, fT h3, h4]
 rw [List.set_eq_take_append_cons_drop, if_pos h1, List.set_eq_take_append_cons_drop, if_pos h3]
 have hp : (l.take i ++ e :: l.drop (i + 1)).Perm (m.take j ++ e :: m.drop (j + 1)) := by rw [<- el, <- em]; exact h
 have h5 := (List.perm_middle.symm.trans hp).trans List.perm_middle
 have h6 := List.Perm.cons_inv h5
 exact (List.perm_middle.trans (h6.cons e')).trans List.perm_middle.symm
theorem run_checkKey {P : Program} {k : TypeId} {d : TypeDesc} {em : Bool} (hd : P.underlying k = some d) (hk : (∃ q, d = .int q) \/ d = .string) (n : Nat) (v : Value) : (Instr.checkKey em (n + 1) k v).run P w = .ok () w := by
 rcases hk with ⟨q, rfl⟩ | rfl <;> simp [Instr.checkKey, run_underlying hd]
theorem ar.set : ∀ {l : List AV} {vs : List Value} {x : AV} {u : Value} (i : Nat), ar g l vs -> ak g x u -> ar g (l.set i x) (vs.set i u)
 | [], _, _, _, _, h, _ => by simp only [ar] at h; subst h; simp [ar]
 | y :: ys, _, x, u, 0, h, hx => by
   simp only [ar] at h
   obtain ⟨v, vs, rfl, h1, h2⟩ := h
   simp only [List.set_cons_zero, ar]
   exact ⟨u, vs, rfl, hx, h2⟩
 | y :: ys, _, x, u, i + 1, h, hx => by
   simp only [ar] at h
   obtain ⟨v, vs, rfl, h1, h2⟩ := h
   simp only [List.set_cons_succ, ar]
   exact ⟨v, _, rfl, h1, ar.set i h2 hx⟩
theorem Bk {k v : AV} {e : MapEntry} (hk : ak g k e.key) (hv : ak g v e.val) : ∀ (ks vs : List AV) (l : List MapEntry), ar g ks (l.map (·.key)) -> ar g vs (l.map (·.val)) ->
 ∃ l' : List MapEntry, l'.Perm (e :: l) /\ ar g (ep k v ks vs).1 (l'.map (·.key)) /\ ar g (ep k v ks vs).2 (l'.map (·.val))
 | [], vs, l, h1, h2 => by
   simp only [ar, List.map_eq_nil_iff] at h1
   subst h1
   exact ⟨[e], List.Perm.refl _, by simp only [ep, de, iL, ar]; exact ⟨_, _, rfl, hk, rfl⟩, by simp only [ep, de, iL, ar]; exact ⟨_, _, rfl, hv, rfl⟩⟩
 | y :: ks, vs, [], h1, h2 => by simp [ar] at h1
 | y :: ks, [], f :: l, h1, h2 => by simp [ar] at h2
 | y :: ks, x :: vs, f :: l, h1, h2 => by
   simp only [ep]
   by_cases aH : fN k y = true
   · rw [if_pos aH]
     exact ⟨e :: f :: l, List.Perm.refl _, by rw [de]; simp only [ar] at h1 ⊢; exact ⟨_, _, rfl, hk, h1⟩, by rw [de]; simp only [ar] at h2 ⊢; exact ⟨_, _, rfl, hv, h2⟩⟩
   · rw [if_neg aH]
     simp only [ar, de, List.cons.injEq] at h1 h2
     obtain ⟨_, _, ⟨rfl, rfl⟩, hy, h1⟩ := h1
     obtain ⟨_, _, ⟨rfl, rfl⟩, hx, h2⟩ := h2
     obtain ⟨l', h3, h4, h5⟩ := Bk hk hv ks vs l h1 h2
     exact ⟨f :: l', ((h3.cons f).trans (List.Perm.swap e f l)), by simp only [de, ar]; exact ⟨_, _, rfl, hy, h4⟩, by simp only [de, ar]; exact ⟨_, _, rfl, hx, h5⟩⟩
theorem rC {k v : AV} : ∀ (ks vs : List AV) (z : AV), z ∈ (ep k v ks vs).1 -> z = k \/ z ∈ ks
 | [], vs, z, h => by simp [ep] at h; exact .inl h
 | y :: ks, vs, z, h => by
   simp only [ep] at h
   split at h
   · simpa using h
   · split at h
     · simp at h; exact .inl h
     · rename_i x xs
       simp only [dD] at h ⊢
       rcases h with h | h
       · exact .inr (.inl h)
       · rcases rC ks xs z h with h | h
         · exact .inl h
         · exact .inr (.inr h)
theorem uV {k v : AV} : ∀ (ks vs : List AV), kQ ks -> (∀ y ∈ ks, fN k y = true \/ fN y k = true) -> kQ (ep k v ks vs).1
 | [], vs, h1, h2 => by simp [ep, kQ]
 | y :: ks, vs, h1, h2 => by
   unfold kQ at h1 ⊢
   rw [List.pairwise_cons] at h1
   simp only [ep]
   split
   · rename_i aH
     rw [List.pairwise_cons, List.pairwise_cons]
     refine ⟨fun z hz => ?_, h1⟩
     rcases dD.1 hz with rfl | hz
     · exact aH
     · exact CK aH (h1.1 z hz)
   · rename_i aH
     split
     · simp
     · rename_i x xs
       rw [List.pairwise_cons]
       refine ⟨fun z hz => ?_, uV ks xs h1.2 fun z hz => h2 z (by simp [hz])⟩
       rcases rC ks xs z hz with rfl | hz
       · rcases h2 y (by simp) with h | h
         · exact absurd h aH
         · exact h
       · exact h1.1 z hz
theorem gx.push {es : Array MapEntry} {clock : Nat} (h : gx es clock) (k v : Value) : gx (es.push ⟨k, v, clock⟩) (clock + 1) := by
 obtain ⟨h1, h2⟩ := h
 refine ⟨?_, fun e he => ?_⟩
 · simp only [Array.toList_push, List.map_append, de, iL]
   rw [List.nodup_append]
   refine ⟨h1, by simp, fun a ha b hb => ?_⟩
   simp at hb
   subst hb
   obtain ⟨e, he, rfl⟩ := List.mem_map.1 ha
   exact Nat.ne_of_lt (h2 e he)
 · simp only [Array.toList_push, fx, kO] at he
   rcases he with he | rfl
   · have := h2 e he; omega
   · simp
theorem uI {es : Array MapEntry} {j : Nat} {e : MapEntry} (hj : es.toList[j]? = some e) (f : MapEntry -> MapEntry) : (es.modify j f).toList = es.toList.set j (f e) := by
 apply List.ext_getElem?
 intro i
 simp only [Array.toList_modify, List.getElem?_modify, List.getElem?_set]
 by_cases eJ : j = i
 · subst eJ
   have aH := (cT.1 hj).1
   simp only [if_true, hj, if_pos aH]; rfl
 · simp only [if_neg eJ]
   cases es.toList[i]? <;> rfl
theorem gx.modify {es qs : Array MapEntry} {clock : Nat} (h : gx es clock) {j : Nat} {e e' : MapEntry} (hj : es.toList[j]? = some e) (hb : e'.born = e.born) (he : qs.toList = es.toList.set j e') : gx qs clock := by
 have hm : qs.toList.map (·.born) = es.toList.map (·.born) := by
  rw [he, List.map_set, hb]
  apply List.ext_getElem?
  intro i
  rw [List.getElem?_set]
  split
  · rename_i eJ
    subst eJ
    rw [jm, hj]
    have aH := (cT.1 hj).1
    simp at aH ⊢; exact aH
  · rfl
 refine ⟨by rw [hm]; exact h.1, fun x hx => ?_⟩
 have : x.born ∈ qs.toList.map (·.born) := List.mem_map_of_mem hx
 rw [hm] at this
 obtain ⟨y, hy, YE⟩ := List.mem_map.1 this
 rw [<- YE]; exact h.2 y hy
theorem pF (h : aQ g U w) {t : TypeId} {m k x : AV} {vm vk vx : Value} (hm : ak g m vm) (hk : ak g k vk) (hx : ak g x vx) :
 aA.Fits C g U (my C.P t m k x U) ((do Instr.mapUpdate t vm vk vx; pure Next.skip : Sem Next).run C.P w) := by
 unfold my
 split
 · rename_i fk e id ht
   split
   · rename_i ks vs AX
     obtain ⟨kt, hu, QC⟩ := tz ht
     obtain ⟨d, hd, AQ⟩ : ∃ d, C.P.underlying kt = some d /\ ((fk = .i /\ ∃ q, d = .int q) \/ (fk = .s /\ d = .string)) := by
      rcases QC with ⟨rfl, q, hq⟩ | ⟨rfl, hq⟩
      · exact ⟨_, hq, .inl ⟨rfl, q, rfl⟩⟩
      · exact ⟨_, hq, .inr ⟨rfl, rfl⟩⟩
     have Ky : (∃ q, d = .int q) \/ d = .string := AQ.imp (·.2) (·.2)
     simp only [ak] at hm
     obtain ⟨r, hr, rfl⟩ := hm
     obtain ⟨r', es, clock, q1, q2, q3, qb, ⟨l, q4, q5, q6, q7⟩, q8⟩ := h.mp id _ AX
     rw [hr] at q1; cases q1
     have nF : (getObj r).run C.P w = .ok (.map es clock) w := by simp [getObj, Sem.run, q3]
     have Gx := run_checkKey (P := C.P) (w := w) (em := false) hd Ky 9999 vk
     have yc : ∀ o, (setObj r o).run C.P w = .ok () { w with heap := w.heap.setIfInBounds r o } := fun o => by simp [setObj, Sem.run, q3]
     split
     · rename_i hf AR
       rcases vB (P := C.P) hd AQ hk q4 q5 q6 hf with ⟨_, ha, hn⟩ | ⟨i, _, _, he, _⟩
       · simp only [Instr.mapUpdate, bo, run_underlying hu, bG, nF, Gx, Instr.findKey, run_underlying hd, hn, bK, yc]
         obtain ⟨l', p1, p2, p3⟩ := Bk (e := ⟨vk, vx, clock⟩) hk hx ks vs l q6 q7
         refine ⟨undef, _, g, .inr ⟨rfl, rfl⟩, Gh.Le.refl g, h.HI AX (kv' := ep k x ks vs) hr q3 ⟨l', ?_, ?_, p2, p3⟩ (qb.push vk vx), by simp only [ak]; exact ⟨[], rfl, by simp [ar]⟩⟩
         · rw [Array.toList_push]
           exact (p1.trans (q4.cons _)).trans (List.perm_append_singleton _ _).symm
         · exact uV ks vs q5 fun y hy => KK (ha y hy)
       · cases he
     · rename_i i hf AR
       rcases vB (P := C.P) hd AQ hk q4 q5 q6 hf with ⟨he, _⟩ | ⟨i', j, e, he, QA, AU, Gy, Mj, hn⟩
       · cases he
       · cases he
         have wL := hn 0
         rw [ck] at wL
         have aH : j < es.size := by
          have := (cT.1 Gy).1
          simpa using this
         have VW : es[j]? = some e := by rw [<- gE]; exact Gy
         have TJ : Instr.sameBits 10000 e.key vk = true := by
          rcases AQ with ⟨rfl, _⟩ | ⟨rfl, _⟩ <;> cases k <;> simp only [mq, bl] at AR
          · simp only [ak] at hk Mj; rw [hk, Mj]; simp [Instr.sameBits]
          · simp only [ak] at hk Mj; rw [hk, Mj]; simp [Instr.sameBits, beq_toListBytes]
         have Dv : (Instr.keyThatStays e.key vk).run C.P w = .ok vk w := by simp [Instr.keyThatStays, TJ]
         have Kz : ((es[j]?).map (·.key)).getD vk = e.key := by rw [VW]; rfl
         simp only [Instr.mapUpdate, bo, run_underlying hu, bG, nF, Gx, Instr.findKey, run_underlying hd, wL, bK, yc, Kz, Dv]
         have QI := uI Gy (fun e => { e with key := vk, val := vx })
         refine ⟨undef, _, g, .inr ⟨rfl, rfl⟩, Gh.Le.refl g, h.HI AX (kv' := (ks, vs.set i x)) hr q3 ⟨l.set i { e with key := vk, val := vx }, ?_, q5, ?_, ?_⟩ (qb.modify (e' := { e with key := vk, val := vx }) Gy rfl QI), by simp only [ak]; exact ⟨[], rfl, by simp [ar]⟩⟩
         · rw [QI]; exact K5 q4 AU Gy _
         · rw [List.map_set]
           have := q6.set i hk
           have e1 : ks.set i k = ks := by
            apply List.ext_getElem?
            intro a
            rw [List.getElem?_set]
            split
            · rename_i ha; subst ha
              split
              · exact QA.symm
              · rename_i hn; exact absurd (cT.1 QA).1 hn
            · rfl
           rw [e1] at this; exact this
         · rw [List.map_set]; exact q7.set i hx
     · trivial
   · trivial
 · trivial
theorem wS {fk : FK} {k z : AV} {ok : Bool} : ∀ (ks vs : List AV) (s : Nat), ks.length = vs.length -> jf fk k z ok ks vs = (match iv fk k ks s with
 | none => .bad
 | some none => .val (if ok then .aL [z, .bool false] else z)
 | some (some i) => .val (if ok then .aL [vs.getD (i - s) z, .bool true] else vs.getD (i - s) z))
 | [], [], s, _ => by simp [jf, iv]
 | [], _ :: _, s, h => by simp at h
 | _ :: _, [], s, h => by simp at h
 | y :: ks, v :: vs, s, h => by
   simp only [jf, iv]
   cases hb : eD fk k y with
   | none => rfl
   | some b =>
     cases b
     · simp only [bl, if_false]
       rw [wS ks vs (s + 1) (by simpa using h)]
       cases hf : iv fk k ks (s + 1) with
       | none => rfl
       | some r =>
         cases r with
         | none => rfl
         | some i =>
           rcases ru hf with ⟨h1, _⟩ | ⟨i', h1, _⟩
           · cases h1
           · cases h1
             have e1 : s + 1 + i' - (s + 1) = i' := by omega
             have e2 : s + 1 + i' - s = i' + 1 := by omega
             simp only [e1, e2, List.getD_cons_succ]
     · simp only [if_true, Nat.sub_self, List.getD_cons_zero]
theorem Bt (h : aQ g U w) {t : TypeId} {m k : AV} {vm vk : Value} {ok : Bool} (hm : ak g m vm) (hk : ak g k vk) :
 aA.Fits C g U (qJ C.P t m k ok U) ((do let r <- Instr.lookup t vm vk ok; pure (Next.value r) : Sem Next).run C.P w) := by
 unfold qJ
 split
 · rename_i fk e ks vs ht he
   split
   · rename_i z hz AR
     obtain ⟨kt, hu, QC⟩ := tz ht
     obtain ⟨d, hd, AQ⟩ : ∃ d, C.P.underlying kt = some d /\ ((fk = .i /\ ∃ q, d = .int q) \/ (fk = .s /\ d = .string)) := by
      rcases QC with ⟨rfl, q, hq⟩ | ⟨rfl, hq⟩
      · exact ⟨_, hq, .inl ⟨rfl, q, rfl⟩⟩
      · exact ⟨_, hq, .inr ⟨rfl, rfl⟩⟩
     have Ky : (∃ q, d = .int q) \/ d = .string := AQ.imp (·.2) (·.2)
     obtain ⟨i, vz, hi, oN, GU⟩ : ∃ i vz, C.P.info? e = some i /\ i.zero = some vz /\ yN vz = z := by
      unfold zeroV at hz
      cases hi : C.P.info? e with
      | none => simp [hi] at hz
      | some i =>
        cases jW : i.zero with
        | none => simp [hi, jW] at hz
        | some vz => simp [hi, jW] at hz; exact ⟨i, vz, rfl, jW, hz⟩
     have MG : ak g z vz := by rw [<- GU]; exact xU vz
     obtain ⟨es, ti, l, hp, Wh, h1, h2⟩ : ∃ es : Array MapEntry, ((vm = .map none /\ es = #[]) \/ ∃ r clock, vm = .map (some r) /\ w.heap[r]? = some (Obj.map es clock)) /\ re g ks vs es := by
      cases m <;> simp only [jb, reduceCtorEq, fy, iM] at he
      · obtain ⟨rfl, rfl⟩ := he
        simp only [ak] at hm; subst hm
        exact ⟨#[], .inl ⟨rfl, rfl⟩, [], List.Perm.refl _, by simp [kQ], by simp [ar], by simp [ar]⟩
      · simp only [ak] at hm
        obtain ⟨r, hr, rfl⟩ := hm
        obtain ⟨r', es, clock, q1, q2, q3, _, q4, _⟩ := h.mp _ _ he
        rw [hr] at q1; cases q1
        exact ⟨es, .inr ⟨r, clock, rfl, q3⟩, q4⟩
      · obtain ⟨rfl, rfl⟩ := he
        simp only [ak] at hm
        obtain ⟨r, es, clock, l, rfl, hr, q0, q1, q2, q3⟩ := hm
        exact ⟨es, .inr ⟨r, clock, rfl, (h.bg r es clock hr).1⟩, l, q0, q1, q2, q3⟩
     have hlen : ks.length = vs.length := by
      have a := h1.length
      have b := h2.length
      simp at a b; omega
     rw [wS ks vs 0 hlen]
     cases hf : iv fk k ks 0 with
     | none => trivial
     | some r =>
       have Gx := run_checkKey (P := C.P) (w := w) (em := es.isEmpty) hd Ky 9999 vk
       have key := vB (P := C.P) hd AQ hk hp Wh h1 hf
       have fin : ∀ q : Option (Nat × Value), Instr.findNow d vk es.toList 0 = some q -> (Instr.lookup t vm vk ok).run C.P w = (match q with
        | some (_, v) => .ok (if ok then .tuple #[v, .bool true] else v) w
        | none => .ok (if ok then .tuple #[vz, .bool false] else vz) w) := fun q hq => by
        rcases ti with ⟨rfl, rfl⟩ | ⟨r, clock, rfl, hh⟩
        · simp only [Instr.lookup, bo, run_underlying hu, bG, bK, Gx, Instr.findKey, run_underlying hd, hq]
          cases q with
          | none => simp only [bK, bG, bo, ek hi oN]
          | some p => rfl
        · have nF : (getObj r).run C.P w = .ok (Obj.map es clock) w := by simp [getObj, Sem.run, hh]
          simp only [Instr.lookup, bo, run_underlying hu, bG, bK, nF, Gx, Instr.findKey, run_underlying hd, hq]
          cases q with
          | none => simp only [bK, bG, bo, ek hi oN]
          | some p => rfl
       rcases key with ⟨rfl, _, hn⟩ | ⟨i, j, e, rfl, _, AU, _, _, hn⟩
       · simp only [bo, fin _ (hn 0), bG, bK]
         refine aK h ?_
         cases ok
         · exact MG
         · simp only [if_true, ak]
           exact ⟨[vz, .bool false], rfl, by simp only [ar]; exact ⟨_, _, rfl, MG, _, _, rfl, by simp only [ak], rfl⟩⟩
       · simp only [bo, fin _ (hn 0), bG, bK, Nat.sub_zero]
         have hv : ak g (vs.getD i z) e.val := by
          have aH : i < vs.length := by
           have a := (cT.1 AU).1
           have b := h2.length
           simp at b; omega
          obtain ⟨v, hv, GP⟩ := h2.get (i := i) (x := vs[i]) (j4 aH)
          rw [jm, AU] at hv
          simp at hv
          subst hv
          have : vs.getD i z = vs[i] := by simp [yo, aH]
          rw [this]; exact GP
         refine aK h ?_
         cases ok
         · exact hv
         · simp only [if_true, ak]
           exact ⟨[e.val, .bool true], rfl, by simp only [ar]; exact ⟨_, _, rfl, hv, _, _, rfl, by simp only [ak], rfl⟩⟩
   · trivial
 · trivial
theorem Fa (h : aQ g U w) : aA.Fits C g U .zT (.ok (.value (.map (some w.heap.size))) (w.alloc (.map #[] 0))) := by
 obtain ⟨b, g', h1, h2, h3, h4⟩ := h.oR (.map #[] 0) 0 0 (.mp [] []) fun g' hle hi hm => ⟨#[], 0, heap_alloc_new w _, ⟨by simp, by simp⟩, ⟨[], List.Perm.refl _, by simp [kQ], by simp [ar], by simp [ar]⟩, hm⟩
 exact ⟨_, _, g', b, rfl, h1, h2, h4, by simp only [NV.at, ak]; exact ⟨_, Gh.lg.2 ⟨_, h3, rfl⟩, rfl⟩⟩
end
end Go.Rip
namespace Go.Rip
open Go.RowKit
def bu (c a b : AV) : aA :=
 match c with
 | .bool t => .val (if t = true then a else b)
 | _ => .bad
def uq (P : Program) (s f : Nat) : Option (Nat × Bool × Nat) :=
 match P.underlying s with
 | some (.struct fields) => match fields[f]? with
   | some x => match jJ P x.type with
     | some (b, n) => some (x.offset, b, n)
     | none => none
   | none => none
 | _ => none
def s9 (P : Program) (s : TypeId) (x : AV) (f : Nat) : aA :=
 match uq P s f, x with
 | some (o, true, n), .agg l => .cond (o + n <= l.length) (.val (.agg ((l.drop o).take n)))
 | some (o, false, _), .agg l => eR (l.drop o)
 | _, _ => .bad
def eT (P : Program) (f : AV) (args : List AV) : aA :=
 match f with
 | .func (.func g) first cap => if cX P g = true then .enter g (first ++ args ++ cap) else .bad
 | .nB o => .yield o args
 | _ => .bad
def BP (P : Program) (t : TypeId) (m : AV) : aA :=
 match mx P t, m with
 | some _, .dL ks vs => .new .it none (.iter (ks.zip vs) none)
 | _, _ => .bad
def oc : List (AV × AV) -> List ((AV × AV) × List (AV × AV))
 | [] => []
 | x :: xs => (x, xs) :: (oc xs).map fun p => (p.1, x :: p.2)
def oa (i : AV) (U : St) : aA :=
 match i with
 | .it o => match U.iter o with
   | some ([], _) => .val (.aL [.bool false])
   | some (x :: xs, _) => .gT o ((oc (x :: xs)).map fun p => (.aL [.bool true, p.1.1, p.1.2], .iter p.2 (some p.1)))
   | none => .bad
 | _ => .bad
def kS (i : AV) (U : St) : aA :=
 match i with
 | .it o => match U.iter o with
   | some (_, some kv) => .val (.aL [kv.1, kv.2])
   | _ => .bad
 | _ => .bad
def uj (P : Program) (t : TypeId) : Option AV :=
 match P.underlying t with
 | some (.interface _) => none
 | some _ => zeroV P t
 | none => none
def qf (P : Program) (x : AV) (t : TypeId) (ok : Bool) : aA :=
 match uj P t, x with
 | some z, .iface u v => if u = t then .val (if ok then .aL [v, .bool true] else v) else if ok then .val (.aL [z, .bool false]) else .bad
 | some z, .cg => if ok then .val (.aL [z, .bool false]) else .bad
 | _, _ => .bad
def n6 (P : Program) (t : TypeId) (mu : Bool) (l c : AV) : aA :=
 match dk P t, l, c with
 | some (e, sz), .int _ l, .int _ c => match ly P e with
   | some z => .cond (0 <= l /\ l = c /\ c <= 65536) (if mu then .ku l.toNat sz e none (bp l.toNat z) else .jy l.toNat (bp l.toNat z) none ⟨l.toNat, e, sz⟩)
   | none => .bad
 | _, _, _ => .bad
def sW (P : Program) (t : TypeId) (x : AV) (U : St) : aA :=
 match dk P t, x with
 | some (e, sz), .ms b off n fI _ => match U.box b, ly P e with
   | some l, some z => .cond (fI = sz /\ off + n * sz <= l.length) (.ir (.aL []) b (.box (aB l off (bp n z))))
   | _, _ => .bad
 | _, _ => .bad
def wC (P : Program) (t u : TypeId) : Option (TypeId × Nat × List AV) :=
 match P.underlying u with
 | some (.int _) => match dk P t with
   | some (e, sz) => match ly P e with
     | some z => some (e, sz, z)
     | none => none
   | none => none
 | _ => none
def zQ (q : TypeId × Nat × List AV) (mu : Bool) (s y : AV) : aA :=
 match s, y with
 | .aq, .int _ n => .cond (0 < n /\ n <= 65536) (if mu then .ku n.toNat q.2.1 q.1 none (bp n.toNat q.2.2) else .jy n.toNat (bp n.toNat q.2.2) none ⟨n.toNat, q.1, q.2.1⟩)
 | _, _ => .bad
def As (st : Option (TypeId × Nat)) (x : AV) : aA := match st, x with
 | some _, .aq => .val (.int .i64 0)
 | _, _ => .bad
def uh (P : Program) (t u : TypeId) (mu : Bool) (s y : AV) (U : St) : aA :=
 match wC P t u with
 | some q => zQ q mu s y
 | none => xN P t u mu s y U
def uk (C : bQ) (mu : Bool) (c : Call) (ρ : Env) (U : St) : aA :=
 match c.callee, c.argTypes.toList, c.args.toList with
 | .value f, _, args => eT C.P (ρ.ev C f) (args.map (ρ.ev C))
 | .builtin .len, [t], [x] => Br C.P t (ρ.ev C x) U
 | .builtin .append, [t, u], [s, y] => uh C.P t u mu (ρ.ev C s) (ρ.ev C y) U
 | .builtin .cap, [t], [x] => As (dk C.P t) (ρ.ev C x)
 | .builtin .min, _, [x, y] => tA (ρ.ev C x) (ρ.ev C y)
 | .builtin .max, _, [x, y] => vG (ρ.ev C x) (ρ.ev C y)
 | .builtin .clear, [t], [x] => sW C.P t (ρ.ev C x) U
 | _, _, _ => .bad
def fR (C : bQ) (mu : Bool) (o : Op) (ρ : Env) (U : St) : aA :=
 match o with
 | .move x | .assign x => .val (ρ.ev C x)
 | .pick c a b => bu (ρ.ev C c) (ρ.ev C a) (ρ.ev C b)
 | .alloc t => Ah C.P t
 | .box _ x => eB (ρ.ev C x)
 | .build t parts => Ap C.P t (iB C ρ parts)
 | .buildSlice t n parts => nc C.P t n mu (iB C ρ parts)
 | .insert t m k v | .mapUpdate t m k v => my C.P t (ρ.ev C m) (ρ.ev C k) (ρ.ev C v) U
 | .load t a => pB C.P t (ρ.ev C a) U
 | .store t a v => B2 C.P t (ρ.ev C a) (ρ.ev C v) U
 | .nilCheck x => a8 (ρ.ev C x)
 | .binOp op t x y _ => Am C.P op t (isLit x || isLit y) (ρ.ev C x) (ρ.ev C y)
 | .unOp op _ x => gL op (ρ.ev C x)
 | .convert s d x => zO C.P s d (ρ.ev C x)
 | .makeInterface t x => rH C.P t (ρ.ev C x)
 | .makeFunc fn first cap => .val (.func fn (first.toList.map (ρ.ev C)) (cap.toList.map (ρ.ev C)))
 | .makeMap _ none => .zT
 | .slice t x lo hi none => BX C.P t (ρ.ev C x) (lo.map (ρ.ev C)) (hi.map (ρ.ev C))
 | .fieldAddr s x f => rq C.P s (ρ.ev C x) f
 | .field s x f => s9 C.P s (ρ.ev C x) f
 | .indexAddr t x i => rB C.P t (ρ.ev C x) (ρ.ev C i)
 | .index t x i => wO C.P t (ρ.ev C x) (ρ.ev C i)
 | .lookup t m k ok => qJ C.P t (ρ.ev C m) (ρ.ev C k) ok U
 | .extract t i => aV (ρ.ev C t) i
 | .panic x => oW (ρ.ev C x)
 | .range t m => BP C.P t (ρ.ev C m)
 | .typeAssert x _ t ok => qf C.P (ρ.ev C x) t ok
 | .makeSlice t l c => n6 C.P t mu (ρ.ev C l) (ρ.ev C c)
 | .next i false => oa (ρ.ev C i) U
 | .entry i => kS (ρ.ev C i) U
 | .call c => uk C mu c ρ U
 | _ => .bad
section
variable {C : bQ} {g : Gh} {U : St} {w : World}
theorem xY (h : aQ g U w) {s f : Nat} {x : AV} {v : Value} (hx : ak g x v) : aA.Fits C g U (s9 C.P s x f) ((do let r <- Instr.field s v f; pure (Next.value r) : Sem Next).run C.P w) := by
 unfold s9
 have key : ∀ {o b n}, uq C.P s f = some (o, b, n) -> ∃ fs y i d, C.P.underlying s = some (.struct fs) /\ fs[f]? = some y /\ y.offset = o /\ C.P.info? y.type = some i /\ C.P.underlying y.type = some d /\ xM d = b /\ i.size = n := fun {o b n} hf => by
  unfold uq at hf
  split at hf
  · rename_i fs hu
    split at hf
    · rename_i y hy
      split at hf
      · rename_i b' n' hv
        simp only [fy, iM] at hf
        obtain ⟨rfl, rfl, rfl⟩ := hf
        obtain ⟨i, d, h1, h2, h3, h4⟩ := ke hv
        exact ⟨fs, y, i, d, hu, hy, rfl, h1, h2, h3, h4⟩
      · cases hf
    · cases hf
  · cases hf
 split
 · rename_i o n l hf
   obtain ⟨fs, y, i, d, hu, hy, rfl, hi, hd, ha, rfl⟩ := key hf
   intro hle
   simp only [ak] at hx
   obtain ⟨vs, rfl, h1, hr⟩ := hx
   simp only [Instr.field, bo, run_underlying hu, bG, hy, asAgg, bK, part, gV hd, ha, if_true, dj, c6 hi]
   refine aK h ?_
   simp only [ak]
   refine ⟨(vs.drop y.offset).take i.size, ?_, fun u hu => h1 u (List.mem_of_mem_drop (List.mem_of_mem_take hu)), (hr.drop _).take _⟩
   congr 1
   apply Array.ext'
   simp [List.extract_eq_take_drop]
 · rename_i o n l hf
   obtain ⟨fs, y, i, d, hu, hy, rfl, hi, hd, ha, rfl⟩ := key hf
   simp only [ak] at hx
   obtain ⟨vs, rfl, h1, hr⟩ := hx
   cases hl : l.drop y.offset with
   | nil => trivial
   | cons z zs =>
     have hz : l[y.offset]? = some z := by
      have := congrArg (fun l => l[0]?) hl
      simpa using this
     obtain ⟨u, kF, Q1⟩ := hr.get hz
     have e : vs.toArray[y.offset]? = some u := by simpa using kF
     simp only [Instr.field, bo, run_underlying hu, bG, hy, asAgg, bK, part, gV hd, ha, bl, if_false, dj, e]
     exact aK h Q1
 · trivial
theorem uo (hG : eL C g) {ρ : Env} {a : Act} (hr : eo g ρ a.tmps) : ∀ l : List Operand, ar g (l.map (ρ.ev C)) (l.map a.eval)
 | [] => by simp [ar]
 | x :: l => by simp only [de, ar]; exact ⟨_, _, rfl, oB hG hr x, uo hG hr l⟩
theorem Kh (h : aQ g U w) {f : AV} {vf : Value} {args : List AV} {vs : List Value} (hf : ak g f vf) (ha : ar g args vs) :
 aA.Fits C g U (eT C.P f args) ((do let d <- Deferred.ofValue vf vs.toArray; invoke d.target d.args : Sem Next).run C.P w) := by
 unfold eT
 split
 · rename_i q first cap
   split
   · rename_i he
     simp only [ak] at hf
     obtain ⟨fs, cs, rfl, h1, h2⟩ := hf
     unfold cX at he
     split at he
     · rename_i fn hfn
       simp only [bF, Bool.not_eq_true'] at he
       have hb : fn.body.isNone = false := by cases hb : fn.body <;> simp_all
       simp only [Deferred.ofValue, invoke, callFunc, bo, bK, bG, run_program, hfn, he.2, hb, bl, if_false, dj]
       exact ⟨fs ++ vs ++ cs, w, by simp, h, (h1.append ha).append h2⟩
     · cases he
   · trivial
 · rename_i o
   simp only [ak] at hf
   obtain ⟨x, hx, rfl⟩ := hf
   simp only [Deferred.ofValue, invoke, bo, bK, bG]
   exact ⟨vs, x, w, w, hx, by simp, rfl, h, ha⟩
 · trivial
theorem vX (h : aQ g U w) {x : AV} {v : Value} {xt t : TypeId} {ok : Bool} (hx : ak g x v) :
 aA.Fits C g U (qf C.P x t ok) ((do let r <- Instr.typeAssert v xt t ok; pure (Next.value r) : Sem Next).run C.P w) := by
 have key : ∀ {z : AV}, uj C.P t = some z -> ∃ d i vz, C.P.underlying t = some d /\ (∀ ms, d ≠ .interface ms) /\ C.P.info? t = some i /\ i.zero = some vz /\ ak g z vz := fun {z} hz => by
  unfold uj at hz
  split at hz
  · cases hz
  · rename_i d hn hd
    unfold zeroV at hz
    cases hi : C.P.info? t with
    | none => simp [hi] at hz
    | some i =>
      cases jW : i.zero with
      | none => simp [hi, jW] at hz
      | some vz => simp [hi, jW] at hz; exact ⟨d, i, vz, hd, fun ms e => hn ms e, rfl, jW, by rw [<- hz]; exact xU vz⟩
  · cases hz
 unfold qf
 split
 · rename_i z u y hz
   obtain ⟨d, i, vz, hd, hn, hi, jW, GU⟩ := key hz
   simp only [ak] at hx
   obtain ⟨q, rfl, hq⟩ := hx
   have eC : (Instr.typeAssert (.iface u q) xt t ok).run C.P w = (if u = t then .ok (if ok then .tuple #[q, .bool true] else q) w else if ok then .ok (.tuple #[vz, .bool false]) w else (Instr.typeAssert (.iface u q) xt t ok).run C.P w) := by
    by_cases hu : u = t
    · rw [if_pos hu]
      cases d <;> first
       | exact absurd rfl (hn _)
       | (cases ok <;> simp [Instr.typeAssert, run_underlying hd, hu])
    · rw [if_neg hu]
      cases ok
      · rfl
      · cases d <;> first
         | exact absurd rfl (hn _)
         | simp [Instr.typeAssert, run_underlying hd, hu, ek hi jW]
   split
   · rename_i hu
     rw [bo, eC, if_pos hu]
     refine aK h ?_
     cases ok
     · exact hq
     · simp only [if_true, ak, ar]; exact ⟨_, rfl, _, _, rfl, hq, _, _, rfl, rfl, rfl⟩
   · rename_i hu
     split
     · rename_i bV
       rw [bo, eC, if_neg hu, if_pos bV]
       exact aK h (by simp only [ak, ar]; exact ⟨_, rfl, _, _, rfl, GU, _, _, rfl, rfl, rfl⟩)
     · trivial
 · rename_i z hz
   obtain ⟨d, i, vz, hd, hn, hi, jW, GU⟩ := key hz
   simp only [ak] at hx
   subst hx
   split
   · rename_i bV
     subst bV
     have eC : (Instr.typeAssert .nilIface xt t true).run C.P w = .ok (.tuple #[vz, .bool false]) w := by
      cases d <;> first
       | exact absurd rfl (hn _)
       | simp [Instr.typeAssert, run_underlying hd, ek hi jW]
     rw [bo, eC]
     exact aK h (by simp only [ak, ar]; exact ⟨_, rfl, _, _, rfl, GU, _, _, rfl, rfl, rfl⟩)
   · trivial
 · trivial
theorem wV (h : aQ g U w) {t : TypeId} {mu : Bool} {l c : AV} {vl vc : Value} (hl : ak g l vl) (hc : ak g c vc) :
 aA.Fits C g U (n6 C.P t mu l c) ((do let x <- Instr.makeSlice t vl vc; pure (Next.value x) : Sem Next).run C.P w) := by
 unfold n6
 split
 · rename_i e sz kl l kc c hs
   split
   · rename_i z hz
     rintro ⟨h0, rfl, h1⟩
     obtain ⟨i, zv, hu, hi, jW, qC, cY, lB, hb, _⟩ := eW hs
     obtain ⟨i', Sy, gA, y8, hm⟩ := jt hz
     rw [hi] at gA; cases gA
     rw [jW] at y8; cases y8
     obtain ⟨h2, h3⟩ := cZ (g := g) hm
     simp only [ak] at hl hc
     subst hl hc
     have Qh : (i.bytes : Int) * l <= 281474976710656 := by
      have e1 : (i.bytes : Int) * l <= 32768 * l := Int.mul_le_mul_of_nonneg_right (by omega) h0
      omega
     have eC := run_make (P := C.P) w t e i zv hu hi jW kl kc l l h0 (Int.le_refl _) Qh (by omega)
     have tm := om (g := g) h2 l.toNat
     have QH : madeCells zv.cells (l.toNat * i.size) = (Array.range (l.toNat * zv.cells.size)).map (zv.cells[· % zv.cells.size]!) := by rw [cY, <- qC]; rfl
     have vC : ∀ u ∈ (madeCells zv.cells (l.toNat * i.size)).toList, u.oneCell' = true := fun u hu => by
      rw [QH] at hu
      simp only [Array.toList_map, List.mem_map] at hu
      obtain ⟨j, _, rfl⟩ := hu
      have aH : j % zv.cells.size < zv.cells.size := Nat.mod_lt _ (by omega)
      rw [getElem!_pos zv.cells _ aH]
      exact h3 _ (by simp)
     rw [<- QH] at tm
     have hlen : (madeCells zv.cells (l.toNat * i.size)).toList.length = l.toNat * sz := by rw [QH]; simp [qC]
     have Be : z.length = sz := by have := h2.length; simp at this; omega
     simp only [bo, eC, bG, bK]
     cases mu
     · have := kV (C := C) (del := none) (e := e) (sz := sz) (n := l.toNat) (c := l.toNat) h (vs := (madeCells zv.cells (l.toNat * i.size)).toList) (rest := []) tm vC (by simp) (by rw [gP, Be]) (by simpa using hlen) (cA _) (by unfold maxLen; omega)
       simpa using this
     · have := mg (C := C) (del := none) (e := e) (sz := sz) (n := l.toNat) (c := l.toNat) h (vs := (madeCells zv.cells (l.toNat * i.size)).toList) (rest := []) tm vC (by simp) (by simpa using hlen) (cA _) (by unfold maxLen; omega)
       simpa using this
   · trivial
 · trivial
theorem Cs (h : aQ g U w) {t ty : TypeId} {x : AV} {v : Value} (hx : ak g x v) :
 aA.Fits C g U (sW C.P t x U) ((do let r <- Builtin.clear_ #[t] ty #[v]; pure (Next.value r) : Sem Next).run C.P w) := by
 unfold sW
 split
 · rename_i e sz b off n fI e' hs
   split
   · rename_i l z hb hz
     rintro ⟨rfl, h1⟩
     obtain ⟨i, zv, hu, hi, jW, qC, cY, lB, _⟩ := eW hs
     obtain ⟨i', Sy, gA, y8, hm⟩ := jt hz
     rw [hi] at gA; cases gA
     rw [jW] at y8; cases y8
     obtain ⟨h2, h3⟩ := cZ (g := g) hm
     simp only [ak] at hx
     obtain ⟨y, c, hy, rfl, _⟩ := hx
     have Be : z.length = fI := by have := h2.length; simp at this; omega
     have tm := om (g := g) h2 n
     have Q0 : Builtin.zeroCells zv.cells n = (Array.range (n * zv.cells.size)).map (zv.cells[· % zv.cells.size]!) := rfl
     obtain ⟨w', et, c7⟩ := qR (C := C) (off := off) h hb hy tm (iw h3 n (by omega)) (by rw [gP, Be]; exact h1)
     rw [<- Q0] at et
     by_cases hn : n = 0
     · subst hn
       have e0 : U.bC b (aB l off (bp 0 z)) = U.bC b l := by simp [aB, bp]
       simp only [Builtin.clear_, bo, bK, bG]
       simp [run_underlying hu]
       refine ⟨_, w, g, .inl rfl, Gh.Le.refl g, ?_, by simp only [ak]; exact ⟨[], rfl, by simp [ar]⟩⟩
       show aQ g (U.bC b (aB l off (bp 0 z))) w
       rw [e0]; exact h.TT hb
     · have YI := ek (P := C.P) hi jW w
       have Qi : (Builtin.clear_ #[t] ty #[.slice (some ⟨y.ax, off, none⟩) n c]).run C.P w = .ok (.tuple #[]) w' := by
        simp [Builtin.clear_, run_underlying hu, YI, et, hn]
       simp only [bo, Qi, bG, bK]
       exact ⟨_, w', g, .inl rfl, Gh.Le.refl g, c7, by simp only [ak]; exact ⟨[], rfl, by simp [ar]⟩⟩
   · trivial
 · trivial
theorem vn : ∀ {ks vs : List AV}, ks.length = vs.length -> (ks.zip vs).map (·.1) = ks
 | [], [], _ => rfl
 | [], _ :: _, h => by simp at h
 | _ :: _, [], h => by simp at h
 | k :: ks, v :: vs, h => by simp only [List.zip_cons_cons, de]; rw [vn (by simpa using h)]
theorem vo : ∀ {ks vs : List AV}, ks.length = vs.length -> (ks.zip vs).map (·.2) = vs
 | [], [], _ => rfl
 | [], _ :: _, h => by simp at h
 | _ :: _, [], h => by simp at h
 | k :: ks, v :: vs, h => by simp only [List.zip_cons_cons, de]; rw [vo (by simpa using h)]
theorem CS (h : aQ g U w) {t : TypeId} {m : AV} {v : Value} (hm : ak g m v) : aA.Fits C g U (BP C.P t m) ((do let x <- Instr.range t v; pure (Next.value x) : Sem Next).run C.P w) := by
 unfold BP
 split
 · rename_i p ks vs ht
   obtain ⟨fk, e⟩ := p
   obtain ⟨kt, hu, _⟩ := tz ht
   simp only [ak] at hm
   obtain ⟨r, es, clock, l, rfl, hr, hp, hs, h1, h2⟩ := hm
   obtain ⟨q1, q2⟩ := h.bg r es clock hr
   have hlen : ks.length = vs.length := by
    have a := h1.length
    have b := h2.length
    simp at a b; omega
   have nF : (getObj r).run C.P w = .ok (.map es clock) w := by simp [getObj, Sem.run, q1]
   obtain ⟨b, g', f1, f2, f3, f4⟩ := h.oR (.mapIter (some r) clock #[] clock) 0 0 (.iter (ks.zip vs) none) fun g' hle hi GH =>
    ⟨r, es, clock, #[], heap_alloc_new w _, hle.bg _ _ hr, ⟨l, by
      have : (es.toList.filter fun e => !(#[] : Array Nat).contains e.born) = es.toList := by simp
      rw [this]; exact hp, by rw [vn hlen]; exact h1.mono hle, by rw [vo hlen]; exact h2.mono hle⟩, trivial⟩
   simp only [Instr.range, bo, run_underlying hu, bG, nF, bK, run_newObj]
   exact ⟨_, _, g', b, rfl, f1, f2, f4, by simp only [NV.at, ak]; exact ⟨_, f3, rfl⟩⟩
 · trivial
theorem zo : ∀ {l : List (AV × AV)} {i : Nat} {x : AV × AV}, l[i]? = some x -> (x, l.eraseIdx i) ∈ oc l
 | [], i, x, h => by simp at h
 | y :: l, 0, x, h => by simp at h; subst h; simp [oc]
 | y :: l, i + 1, x, h => by
   simp only [List.getElem?_cons_succ] at h
   simp only [oc, List.eraseIdx_cons_succ, dD, List.mem_map]
   exact .inr ⟨_, zo h, rfl⟩
theorem ar.eraseIdx : ∀ {l : List AV} {vs : List Value} (i : Nat), ar g l vs -> ar g (l.eraseIdx i) (vs.eraseIdx i)
 | [], _, _, h => by simp only [ar] at h; subst h; simp [ar]
 | y :: ys, _, 0, h => by
   simp only [ar] at h
   obtain ⟨v, vs, rfl, h1, h2⟩ := h
   simpa using h2
 | y :: ys, _, i + 1, h => by
   simp only [ar] at h
   obtain ⟨v, vs, rfl, h1, h2⟩ := h
   simp only [List.eraseIdx_cons_succ, ar]
   exact ⟨v, _, rfl, h1, ar.eraseIdx i h2⟩
theorem jx {α β : Type} (f : α -> β) : ∀ (l : List α) (i : Nat), (l.eraseIdx i).map f = (l.map f).eraseIdx i
 | [], i => by simp
 | x :: l, 0 => by simp
 | x :: l, i + 1 => by simp [jx f l i]
theorem zJ {α : Type} {l m : List α} (h : l.Perm m) {i j : Nat} {e : α} (hi : l[i]? = some e) (hj : m[j]? = some e) : (l.eraseIdx i).Perm (m.eraseIdx j) := by
 obtain ⟨h1, h2⟩ := cT.1 hi
 obtain ⟨h3, h4⟩ := cT.1 hj
 have el : l = l.take i ++ e :: l.drop (i + 1) := by
  conv => lhs; rw [<- List.take_append_drop i l, fT h1, h2]
 have em : m = m.take j ++ e :: m.drop (j + 1) := by
  conv => lhs; rw [<- List.take_append_drop j m, fT h3, h4]
 have hp : (l.take i ++ e :: l.drop (i + 1)).Perm (m.take j ++ e :: m.drop (j + 1)) := by rw [<- el, <- em]; exact h
 have h5 := (List.perm_middle.symm.trans hp).trans List.perm_middle
 rw [List.eraseIdx_eq_take_drop_succ, List.eraseIdx_eq_take_drop_succ]
 exact List.Perm.cons_inv h5
theorem CB {es : List MapEntry} (hn : (es.map (·.born)).Nodup) {seen : Array Nat} {e : MapEntry} {j : Nat} (hj : (es.filter fun x => !seen.contains x.born)[j]? = some e) :
 (es.filter fun x => !(seen.push e.born).contains x.born) = (es.filter fun x => !seen.contains x.born).eraseIdx j := by
 have e1 : (es.filter fun x => !(seen.push e.born).contains x.born) = (es.filter fun x => !seen.contains x.born).filter fun x => x.born != e.born := by
  rw [List.filter_filter]
  apply List.filter_congr
  intro x _
  simp only [Array.contains_push, Bool.not_or]
  rw [Bool.and_comm]
  congr 1
 rw [e1]
 have GK : ((es.filter fun x => !seen.contains x.born).map (·.born)).Nodup := List.Nodup.sublist (List.Sublist.map _ List.filter_sublist) hn
 generalize (es.filter fun x => !seen.contains x.born) = l at hj GK
 clear e1 hn es
 induction l generalizing j with
 | nil => simp at hj
 | cons y l ih =>
   simp only [de, List.nodup_cons] at GK
   cases j with
   | zero =>
     simp at hj; subst hj
     simp only [List.filter_cons, bne_self_eq_false, bl, if_false, List.eraseIdx_zero, List.tail_cons]
     rw [List.filter_eq_self]
     intro x hx
     simp only [bne_iff_ne, ne_eq]
     intro he
     exact GK.1 (he ▸ List.mem_map_of_mem hx)
   | succ j =>
     simp only [List.getElem?_cons_succ] at hj
     have bX : y.born ≠ e.born := fun he => GK.1 (he ▸ List.mem_map_of_mem (fw hj))
     simp only [List.filter_cons, bne_iff_ne, ne_eq, bX, not_false_eq_true, if_true, List.eraseIdx_cons_succ]
     rw [ih hj GK.2]
theorem Fb (h : aQ g U w) {i : AV} {v : Value} {ty : TypeId} (hi : ak g i v) : aA.Fits C g U (oa i U) ((do let x <- Instr.next v false ty; pure (Next.value x) : Sem Next).run C.P w) := by
 unfold oa
 split
 · rename_i o
   simp only [ak] at hi
   obtain ⟨p, hp, rfl⟩ := hi
   split
   · rename_i cur hit
     obtain ⟨p', k1, k2, m, es, clock, seen, k3, k4, ⟨l, k5, k6, k7⟩, k8⟩ := h.live o _ (St.rF.1 hit)
     rw [hp] at k1; cases k1
     obtain ⟨q1, q2⟩ := h.bg m es clock k4
     simp only [iL, ar, List.map_eq_nil_iff] at k6
     subst k6
     have yb := k5.symm.eq_nil
     have GA : (getObj p.ax).run C.P w = .ok (.mapIter (some m) clock seen clock) w := by simp [getObj, Sem.run, k3]
     have GB : (getObj m).run C.P w = .ok (.map es clock) w := by simp [getObj, Sem.run, q1]
     have Eu : (!seen.isEmpty && !es.isEmpty && es.all (fun e => decide (e.born >= clock))) = false := by
      cases he : es.isEmpty
      · have : es.all (fun e => decide (e.born >= clock)) = false := by
         rw [Array.all_eq_false]
         have h0 : 0 < es.size := by
          rcases Nat.eq_zero_or_pos es.size with h0 | h0
          · simp [Array.isEmpty, h0] at he
          · exact h0
         refine ⟨0, h0, ?_⟩
         have := q2.2 es[0] (by simp)
         simp; omega
        simp [this]
      · simp
     have TC : (es.filter fun e => !seen.contains e.born) = #[] := by
      apply Array.ext'
      simpa using yb
     simp only [Instr.next, bo, GA, bG, GB, Eu, dj, bl, if_false, bK, TC]
     have e2 : (#[] : Array MapEntry).filter (fun e => decide (e.born < clock)) = #[] := by simp
     have e3 : (#[] : Array MapEntry).filter (fun e => decide (e.born >= clock)) = #[] := by simp
     simp [choose, Sem.run, Question.forced, Result.andThen]
     exact aK h (by simp only [ak, ar]; exact ⟨[.bool false], rfl, _, _, rfl, rfl, rfl⟩)
   · rename_i x xs cur hit
     obtain ⟨p', k1, k2, m, es, clock, seen, k3, k4, ⟨l, k5, k6, k7⟩, k8⟩ := h.live o _ (St.rF.1 hit)
     rw [hp] at k1; cases k1
     obtain ⟨q1, q2⟩ := h.bg m es clock k4
     have GA : (getObj p.ax).run C.P w = .ok (.mapIter (some m) clock seen clock) w := by simp [getObj, Sem.run, k3]
     have Eu : (!seen.isEmpty && !es.isEmpty && es.all (fun e => decide (e.born >= clock))) = false := by
      cases he : es.isEmpty
      · have : es.all (fun e => decide (e.born >= clock)) = false := by
         rw [Array.all_eq_false]
         have h0 : 0 < es.size := by
          rcases Nat.eq_zero_or_pos es.size with h0 | h0
          · simp [Array.isEmpty, h0] at he
          · exact h0
         refine ⟨0, h0, ?_⟩
         have := q2.2 es[0] (by simp)
         simp; omega
        simp [this]
      · simp
     generalize hL : (es.filter fun e => !seen.contains e.born) = L
     have Dh : (es.toList.filter fun e => !seen.contains e.born) = L.toList := by rw [<- hL]; simp
     rw [Dh] at k5
     have je : ∀ e ∈ L.toList, e ∈ es.toList := fun e he => by rw [<- Dh] at he; exact (List.mem_filter.1 he).1
     have hlen : l.length = xs.length + 1 := by have := k6.length; simpa using this
     have Gt : L.size = xs.length + 1 := by rw [<- hlen, k5.length_eq]; simp
     have hold : L.filter (fun e => decide (e.born < clock)) = L := by
      apply Array.ext'
      rw [Array.toList_filter, List.filter_eq_self]
      intro e he
      have := q2.2 e (je e he)
      simpa using this
     have lA : L.filter (fun e => decide (e.born >= clock)) = #[] := by
      apply Array.ext'
      rw [Array.toList_filter]
      apply List.filter_eq_nil_iff.2
      intro e he
      have := q2.2 e (je e he)
      simp; omega
     have XR : L.isEmpty = false := by simp [Array.isEmpty, Gt]
     have key : ∀ (w1 : World) (c : Nat), w1.heap = w.heap -> w1.os = w.os -> w1.tape = w.tape -> w1.output = w.output -> c < L.size ->
      ∀ e, L[c]? = some e -> ∃ u w' g' v x', (setObj p.ax (.mapIter (some m) clock (seen.push e.born) clock)).run C.P w1 = .ok () w' /\ u = Value.tuple #[.bool true, e.key, e.val] /\
       (v, x') ∈ (oc (x :: xs)).map (fun p => (AV.aL [.bool true, p.1.1, p.1.2], Live.iter p.2 (some p.1))) /\ Gh.Le g g' /\ aQ g' (U.set o x') w' /\ ak g' v u := fun w1 c e1 e2 e3 e4 hc e he => by
      have iq : L.toList[c]? = some e := by rw [gE]; exact he
      obtain ⟨a, ha⟩ := List.getElem?_of_mem (k5.mem_iff.2 (fw iq))
      have AK : a < (x :: xs).length := by
       have := (cT.1 ha).1
       rw [hlen] at this; simpa using this
      have MF : (x :: xs)[a]? = some ((x :: xs)[a]) := j4 AK
      generalize (x :: xs)[a] = kv at MF
      obtain ⟨vk, iE, oH⟩ := k6.get (i := a) (x := kv.1) (by rw [jm, MF]; rfl)
      obtain ⟨vv, QV, er⟩ := k7.get (i := a) (x := kv.2) (by rw [jm, MF]; rfl)
      rw [jm, ha] at iE QV
      simp at iE QV
      subst iE QV
      have yc : (setObj p.ax (.mapIter (some m) clock (seen.push e.born) clock)).run C.P w1 = .ok () { w1 with heap := w1.heap.setIfInBounds p.ax (.mapIter (some m) clock (seen.push e.born) clock) } := by
       simp [setObj, Sem.run, e1, k3]
      have aH := (gD.1 k3).1
      refine ⟨_, _, g, _, _, yc, rfl, List.mem_map.2 ⟨_, zo MF, rfl⟩, Gh.Le.refl g, ?_, ?_⟩
      · refine h.rewrite (St.rF.1 hit) hp ⟨e2, e3, e4, by simp [e1]⟩ (fun k hk _ => by simp only [e1]; exact Array.getElem?_setIfInBounds_ne (Ne.symm hk)) (fun o => ?_) ?_ ?_
        · cases ei : g.bq p.ax o with
          | none => rfl
          | some u => have := (h.bq _ _ _ ei).1; simp [World.cell?, k3] at this
        · cases ei : g.bg p.ax with
          | none => rfl
          | some u => have := (h.bg _ _ _ ei).1; rw [k3] at this; cases this
        · refine ⟨m, es, clock, seen.push e.born, by simp [e1, aH], k4, ⟨l.eraseIdx a, ?_, ?_, ?_⟩, e, ?_, by simp, oH, er⟩
          · have uR : (es.toList.filter fun e => !seen.contains e.born)[c]? = some e := by rw [Dh]; exact iq
            rw [CB q2.1 uR, Dh]
            exact zJ k5 ha iq
          · rw [jx, jx]; exact k6.eraseIdx a
          · rw [jx, jx]; exact k7.eraseIdx a
          · exact je e (fw iq)
      · simp only [ak, ar]
        exact ⟨_, rfl, _, _, rfl, rfl, _, _, rfl, oH, _, _, rfl, er, rfl⟩
     have AY : ∀ (n : Nat) (w1 : World), (choose (.mapNext L.size)).run C.P w = .ok n w1 -> w1.heap = w.heap -> w1.os = w.os -> w1.tape = w.tape -> w1.output = w.output -> n < L.size ->
      aA.Fits C g U (.gT o ((oc (x :: xs)).map fun p => (.aL [.bool true, p.1.1, p.1.2], .iter p.2 (some p.1)))) ((do let x <- Instr.next (.pointer (some ⟨p.ax, 0, none⟩)) false ty; pure (Next.value x) : Sem Next).run C.P w) := fun n w1 XJ e1 e2 e3 e4 hn => by
      have GB : (getObj m).run C.P w = .ok (.map es clock) w := by simp [getObj, Sem.run, q1]
      have P9 : L[n]? = some L[n] := by simp [hn]
      generalize L[n] = e at P9
      obtain ⟨u, w', g', v, x', r1, r2, r3, r4, r5, r6⟩ := key w1 n e1 e2 e3 e4 hn e P9
      have Tu : ((#[] : Array (Option MapEntry)) ++ (L ++ #[]).map some).size = L.size := by simp
      have XK : ((#[] : Array (Option MapEntry)) ++ (L ++ #[]).map some)[n]? = some (some e) := by simp [P9]
      simp only [Instr.next, bo, GA, bG, GB, Eu, dj, bl, if_false, bK, hL, hold, lA, XR, Tu, XJ, XK, r1]
      exact ⟨_, w', g', v, x', rfl, r3, r4, r5, by rw [<- r2]; exact r6⟩
     by_cases hf : L.size <= 1
     · refine AY 0 w ?_ rfl rfl rfl rfl (by omega)
       simp [choose, Sem.run, Question.forced, hf]
     · refine AY (w.tape w.drawn (.mapNext L.size) % L.size) w.drew ?_ rfl rfl rfl rfl (Nat.mod_lt _ (by omega))
       have XV : Question.forced (.mapNext L.size) = false := by simp only [Question.forced, decide_eq_false_iff_not]; exact hf
       simp only [choose, Sem.run, XV, bl, if_false, Question.cut]
       rfl
   · trivial
 · trivial
theorem Cz (h : aQ g U w) {i : AV} {v : Value} (hi : ak g i v) : aA.Fits C g U (kS i U) ((do let x <- Instr.entry v; pure (Next.value x) : Sem Next).run C.P w) := by
 unfold kS
 split
 · rename_i o
   simp only [ak] at hi
   obtain ⟨p, hp, rfl⟩ := hi
   split
   · rename_i rest kv hit
     obtain ⟨p', k1, k2, m, es, clock, seen, k3, k4, _, e, k5, k6, k7, k8⟩ := h.live o _ (St.rF.1 hit)
     rw [hp] at k1; cases k1
     obtain ⟨q1, q2⟩ := h.bg m es clock k4
     have GA : (getObj p.ax).run C.P w = .ok (.mapIter (some m) clock seen clock) w := by simp [getObj, Sem.run, k3]
     have GB : (getObj m).run C.P w = .ok (.map es clock) w := by simp [getObj, Sem.run, q1]
     have Ey : es.find? (fun x => x.born == e.born) = some e := by
      rw [<- Array.find?_toList]
      have hn := q2.1
      generalize es.toList = l at k5 hn
      induction l with
      | nil => simp at k5
      | cons y l ih =>
        simp only [de, List.nodup_cons] at hn
        rw [List.find?_cons]
        rcases dD.1 k5 with rfl | hm
        · simp
        · have : (y.born == e.born) = false := by
           simp only [beq_eq_false_iff_ne, ne_eq]
           intro he
           exact hn.1 (he ▸ List.mem_map_of_mem hm)
          rw [this]
          exact ih hm hn.2
     simp only [Instr.entry, bo, GA, bG, k6, GB, bne_self_eq_false, bl, if_false, dj, bK, Ey]
     exact aK h (by simp only [ak, ar]; exact ⟨_, rfl, _, _, rfl, k7, _, _, rfl, k8, rfl⟩)
   · trivial
 · trivial
theorem uL (hG : eL C g) {ρ : Env} {a : Act} (hr : eo g ρ a.tmps) (parts : Array (Nat × Operand)) :
 (parts.map fun (i, x) => (i, a.eval x)).size = (iB C ρ parts).length /\ ∀ (i : Nat) (p : Nat × AV) (q : Nat × Value), (iB C ρ parts)[i]? = some p -> (parts.map fun (i, x) => (i, a.eval x))[i]? = some q -> p.1 = q.1 /\ ak g p.2 q.2 := by
 refine ⟨by simp [iB], fun i p q h1 h2 => ?_⟩
 simp only [iB, jm, gE, kN] at h1
 obtain ⟨y, hy, rfl⟩ := h1
 simp only [Array.getElem?_map, hy, Option.map_some, fy] at h2
 subst h2
 exact ⟨rfl, oB hG hr _⟩
theorem DP (hG : eL C g) {ρ : Env} {a : Act} (hr : eo g ρ a.tmps) (x : Option Operand) : match x.map (ρ.ev C), x.map a.eval with | none, none => True | some x, some u => ak g x u | _, _ => False := by
 cases x with
 | none => trivial
 | some x => exact oB hG hr x
theorem xi {P : Program} {w : World} {t u ty e : TypeId} {i : TypeInfo} {z : Value} {k k' : IntKind} (ht : P.underlying t = some (.slice e)) (hu : P.underlying u = some (.int k')) (hi : P.info? e = some i) (hz : i.zero = some z) (wE : i.bytes <= 32768) (hp : 0 < i.size)
 {n : Nat} (h0 : 0 < n) (hn : n <= 65536) :
 (Builtin.append_ #[t, u] ty #[.slice none 0 0, .int k (n : Int)]).run P w =
   .ok (.slice (some ⟨w.heap.size, 0, none⟩) n (grownCap w n 0 e))
    (w.drew.alloc (.cells (Builtin.zeroCells z.cells n ++ Builtin.zeroCells z.cells (grownCap w n 0 e - n)) e)) := by
 have TL : IntKind.i64.wrap (n : Int) = n := sn ⟨by omega, by omega⟩
 have Ko : ¬ (9223372036854775807 < (n : Int)) := by omega
 have gK : n * i.bytes <= 140737488355328 := Nat.le_trans (Nat.mul_le_mul hn wE) (by omega)
 have Gq := growslice_fits (old := 0) (need := n) (bytes := i.bytes) (by omega) gK
 have Km : ¬ (281474976710656 < Builtin.nextslicecap n 0 * i.bytes) := by omega
 have il : ¬ ((281474976710656 : Int) < (n : Int) * (i.bytes : Int)) := by
  have : (n : Int) * (i.bytes : Int) = ((n * i.bytes : Nat) : Int) := by simp
  omega
 have Yk : ¬ (n = 0 \/ i.size = 0) := by omega
 have V8 : ¬ ((n : Int) < 0) := by omega
 simp [Builtin.append_, run_underlying ht, run_underlying hu, sizeOf, typeInfo, zeroValue, hi, hz, TL, Ko, Km, il, Yk, V8, Question.forced, newRow, grownCap, asInt, asIntOf, Builtin.firstCells]
 have e1 : n ≠ 0 := by omega
 have e2 : n * i.size ≠ 0 := Nat.mul_ne_zero e1 (by omega)
 rw [if_neg e1, if_neg e2]
theorem Eo {P : Program} {t u : TypeId} {q : TypeId × Nat × List AV} (h : wC P t u = some q) : ∃ k, P.underlying u = some (.int k) /\ dk P t = some (q.1, q.2.1) /\ ly P q.1 = some q.2.2 := by
 unfold wC at h
 split at h
 · rename_i k hu
   split at h
   · rename_i e sz hs
     split at h
     · rename_i z hz
       cases h
       exact ⟨k, hu, hs, hz⟩
     · cases h
   · cases h
 · cases h
theorem En (h : aQ g U w) {t u ty : TypeId} {mu : Bool} {q : TypeId × Nat × List AV} (hq : wC C.P t u = some q) {s y : AV} {v v2 : Value} (hs : ak g s v) (hy : ak g y v2) :
 aA.Fits C g U (zQ q mu s y) ((do let r <- Builtin.append_ #[t, u] ty #[v, v2]; pure (Next.value r) : Sem Next).run C.P w) := by
 obtain ⟨k', hu, kY, hz⟩ := Eo hq
 unfold zQ
 split
 · rename_i k n
   rintro ⟨h0, h1⟩
   obtain ⟨i, zv, ht, hi, jW, qC, cY, lB, wE, Vf⟩ := eW kY
   obtain ⟨i', Sy, gA, y8, hm⟩ := jt hz
   rw [hi] at gA; cases gA
   rw [jW] at y8; cases y8
   obtain ⟨h2, h3⟩ := cZ (g := g) hm
   simp only [ak] at hs hy
   subst hs hy
   obtain ⟨m, rfl⟩ : ∃ m : Nat, n = m := ⟨n.toNat, by omega⟩
   simp only [eF]
   have iX := grownCap_ge w m 0 q.1
   have hle := grownCap_le_maxLen w m 0 q.1 (by unfold maxLen; omega)
   rw [bo, xi (k := k) ht hu hi jW wE (by omega) (by omega) (by omega)]
   have c7 := h.grow (gy w)
   have tm := om (g := g) h2 m
   have Be : q.2.2.length = i.size := by have := h2.length; simp at this; omega
   have vC := iw h3 m (by omega)
   have Mw := iw h3 (grownCap w m 0 q.1 - m) (by omega)
   have hlen : (Builtin.zeroCells zv.cells m).toList.length + (Builtin.zeroCells zv.cells (grownCap w m 0 q.1 - m)).toList.length = grownCap w m 0 q.1 * q.2.1 := by
    rw [nK, nK, size_zeroCells, size_zeroCells, qC, <- Nat.add_mul, <- cY]
    congr 1; omega
   have ew : Builtin.zeroCells zv.cells m ++ Builtin.zeroCells zv.cells (grownCap w m 0 q.1 - m) = ((Builtin.zeroCells zv.cells m).toList ++ (Builtin.zeroCells zv.cells (grownCap w m 0 q.1 - m)).toList).toArray := by simp
   rw [ew]
   simp only [bG, bK]
   cases mu
   · exact kV c7 tm vC Mw (by rw [gP, Be, cY]) hlen iX hle
   · exact mg c7 tm vC Mw hlen iX hle
 · trivial
theorem F4 (h : aQ g U w) {t ty : TypeId} {x : AV} {v : Value} (hx : ak g x v) :
 aA.Fits C g U (As (dk C.P t) x) ((do let r <- Builtin.cap_ #[t] ty #[v]; pure (Next.value r) : Sem Next).run C.P w) := by
 unfold As
 split
 · rename_i q hq
   obtain ⟨e, sz⟩ := q
   obtain ⟨i, z, ht, _⟩ := eW hq
   simp only [ak] at hx
   subst hx
   have : (Builtin.cap_ #[t] ty #[.slice none 0 0]).run C.P w = .ok (.int .i64 0) w := by simp [Builtin.cap_, run_underlying ht]; rfl
   rw [bo, this]
   exact aK h (by simp only [ak])
 · trivial
theorem Ak (h : aQ g U w) {t u ty : TypeId} {mu : Bool} {s y : AV} {v v2 : Value} (hs : ak g s v) (hy : ak g y v2) :
 aA.Fits C g U (uh C.P t u mu s y U) ((do let r <- Builtin.append_ #[t, u] ty #[v, v2]; pure (Next.value r) : Sem Next).run C.P w) := by
 unfold uh
 split
 · rename_i q hq
   exact En h hq hs hy
 · exact Aj h hs hy
theorem D6 (h : aQ g U w) (hG : eL C g) {ρ : Env} {a : Act} (hr : eo g ρ a.tmps) (mu : Bool) (c : Call) (ty : TypeId) :
 aA.Fits C g U (uk C mu c ρ U) ((do let d <- resolve a.eval c ty; invoke d.target d.args : Sem Next).run C.P w) := by
 obtain ⟨callee, ⟨args⟩, ⟨argTypes⟩⟩ := c
 have e := fun x => oB hG hr x
 have fin : aA.Fits C g U (match callee, argTypes, args with
  | .value f, _, args => eT C.P (ρ.ev C f) (args.map (ρ.ev C))
  | .builtin .len, [t], [x] => Br C.P t (ρ.ev C x) U
  | .builtin .append, [t, u], [s, y] => uh C.P t u mu (ρ.ev C s) (ρ.ev C y) U
  | .builtin .cap, [t], [x] => As (dk C.P t) (ρ.ev C x)
  | .builtin .min, _, [x, y] => tA (ρ.ev C x) (ρ.ev C y)
  | .builtin .max, _, [x, y] => vG (ρ.ev C x) (ρ.ev C y)
  | .builtin .clear, [t], [x] => sW C.P t (ρ.ev C x) U
  | _, _, _ => .bad) ((do let d <- resolve a.eval ⟨callee, ⟨args⟩, ⟨argTypes⟩⟩ ty; invoke d.target d.args : Sem Next).run C.P w) := by
  split
  · rename_i f
    have := Kh (C := C) h (e f) (uo hG hr args)
    have e2 : (args.map a.eval).toArray = (⟨args⟩ : Array Operand).map a.eval := by simp
    rw [e2] at this
    exact this
  · rename_i t x
    have := Ha (C := C) (ty := ty) h (t := t) (e x)
    simpa only [resolve, invoke, builtin, bo, bK, bG, List.map_toArray, de, iL] using this
  · rename_i t u s y
    have := Ak (C := C) (ty := ty) (mu := mu) h (t := t) (u := u) (e s) (e y)
    simpa only [resolve, invoke, builtin, bo, bK, bG, List.map_toArray, de, iL] using this
  · rename_i t x
    have := F4 (C := C) (ty := ty) h (t := t) (e x)
    simpa only [resolve, invoke, builtin, bo, bK, bG, List.map_toArray, de, iL] using this
  · rename_i x y
    have := Hh (C := C) (ty := ty) (ts := ⟨argTypes⟩) h (e x) (e y)
    simpa only [resolve, invoke, builtin, bo, bK, bG, List.map_toArray, de, iL] using this
  · rename_i x y
    have := Hg (C := C) (ty := ty) (ts := ⟨argTypes⟩) h (e x) (e y)
    simpa only [resolve, invoke, builtin, bo, bK, bG, List.map_toArray, de, iL] using this
  · rename_i t x
    have := Cs (C := C) (ty := ty) h (t := t) (e x)
    simpa only [resolve, invoke, builtin, bo, bK, bG, List.map_toArray, de, iL] using this
  · trivial
 exact fin
theorem KZ (h : aQ g U w) (hG : eL C g) {ρ : Env} {a : Act} (hr : eo g ρ a.tmps) (mu : Bool) (o : Oper) : aA.Fits C g U (fR C mu o.op ρ U) ((execOp a.eval o).run C.P w) := by
 have e := fun x => oB hG hr x
 obtain ⟨dst, op, type, pos, after, guard⟩ := o
 unfold fR
 dsimp only
 split
 · exact aK h (e _)
 · exact aK h (e _)
 · rename_i c x y
   unfold bu
   split
   · rename_i t ht
     have hc := e c
     rw [ht] at hc
     simp only [ak] at hc
     simp only [execOp, hc, asBool, bo, bK, bG]
     refine aK h ?_
     cases t
     · exact e _
     · exact e _
   · trivial
 · exact Ck h
 · exact F3 h (e _)
 · obtain ⟨h1, h2⟩ := uL hG hr ‹_›
   exact Cp h h1 h2
 · obtain ⟨h1, h2⟩ := uL hG hr ‹_›
   exact vu h h1 h2
 · exact pF h (e _) (e _) (e _)
 · exact pF h (e _) (e _) (e _)
 · exact EX h (e _)
 · exact C0 h (e _) (e _)
 · exact yk h rfl (e _)
 · exact F1 h _ _ (e _) (e _)
 · exact LM h (e _)
 · exact Ea h (e _)
 · exact wU h (e _)
 · rename_i fn first cap
   simp only [execOp, Instr.makeFunc, bo, bK, bG]
   refine aK h ?_
   simp only [ak]
   exact ⟨first.toList.map a.eval, cap.toList.map a.eval, by congr 1 <;> (apply Array.ext'; simp), uo hG hr _, uo hG hr _⟩
 · simp only [execOp, Instr.makeMap, Option.map_none, bo, bK, bG, run_newObj]
   exact Fa h
 · exact CZ h (e _) (DP hG hr _) (DP hG hr _)
 · exact wz h (e _)
 · exact xY h (e _)
 · exact wP h (e _) (e _)
 · exact CG h (e _) (e _)
 · exact Bt h (e _) (e _)
 · exact zE h (e _) _
 · exact CQ h (e _)
 · exact CS h (e _)
 · exact vX h (e _)
 · exact wV h (e _) (e _)
 · exact Fb h (e _)
 · exact Cz h (e _)
 · exact D6 h hG hr mu _ _
 · trivial
end
end Go.Rip
